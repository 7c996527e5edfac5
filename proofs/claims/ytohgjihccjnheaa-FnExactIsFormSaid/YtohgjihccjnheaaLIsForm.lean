/- The law FnExactIsForm, walked. -/
import Derived.Test.YtohgjihccjnheaaD4
import Derived.Test.YtohgjihccjnheaaRegs
set_option linter.unusedVariables false
set_option linter.unusedSimpArgs false
namespace Go.Proofs.Ytohgjihccjnheaa
open Go.RowKit
set_option maxRecDepth 20000 in
set_option maxHeartbeats 2000000 in
theorem lawIsForm_any (a0 : Int) (a1 : Nat → Int) (a2 : Nat → Int) (w : World) (w0 : (Lit.int .i64 a0).wf = true) (w1 : ∀ i, 0 ≤ a1 i ∧ a1 i ≤ 255) (w2 : ∀ i, 0 ≤ a2 i ∧ a2 i ≤ 255) :
    Calls Try.prog 4 #[.int .i64 a0, .agg (u8s 64 a1), .agg (u8s 128 a2)] w fun e w' => e = .returned (.bool true) ∧ Below w.heap.size w w' := by
  obtain ⟨r0, hS, hI⟩ := IsForm_pair a0 a1 a2 w0 w1 w2
  have HS := Lib.hid hS
  have HI := Lib.hid hI
  clear hS hI w0 w1 w2
  obtain ⟨hb, hA1, hA2⟩ := boxes2 w (u8s 64 a1) (u8s 128 a2) 22 28
  go_enter Try.func4, Try.ntmps4
  go_upto_region 1 with (fail)
  refine law_region2 (by kernel_rfl) (by kernel_rfl) (by kernel_rfl) (by kernel_rfl)
    (fun i => ([some (.int .i64 a0), some (.agg (u8s 64 a1)), some (.agg (u8s 64 a1)), some (.agg (u8s 128 a2)), some (.agg (u8s 128 a2)), some (.bool r0), some (.bool r0)] : List (Option Value)).getD i none) 0 (fun k => [].getD k 0) (fun k => [].getD k 0) (fun k => [].getD k 0) (fun k => [].getD k 0) (fun k => [].getD k 0) (fun k => [].getD k 0) (fun k => [].getD k (fun _ => 0)) (fun k => [].getD k 0) ?_ ?_ ?_ ?_ ?_ ?_
  · intro i hi
    rcases i with _|_|_|_|_|_|_|i
    · exact .inl ⟨_, rfl⟩
    · exact .inl ⟨_, rfl⟩
    · exact .inl ⟨_, rfl⟩
    · exact .inl ⟨_, rfl⟩
    · exact .inl ⟨_, rfl⟩
    · exact .inl ⟨_, rfl⟩
    · exact .inl ⟨_, rfl⟩
    · simp only [List.length_cons, List.length_nil] at hi; omega
  · intro k hk
    rcases k with k
    · omega
  · intro k hk k' hk'
    rcases k with k
    all_goals rcases k' with k'
    all_goals first | omega | exact ⟨by decide, by decide, by decide⟩
  · intro k hk
    rcases k with k
    · omega
  · intro i o c ho hc a w2 hB hrd hpar
    rcases i with _|_|_|_|_|_|_|i
    · obtain rfl := Option.some.inj ho
      obtain rfl := Option.some.inj hc
      exact wp_move _ (.int .i64 a0) rfl (hpar 0 _ (by kernel_rfl) (by kernel_rfl))
    · obtain rfl := Option.some.inj ho
      obtain rfl := Option.some.inj hc
      exact wp_loadB 22 _ rfl _ (hpar 4 (.pointer (some ⟨w.heap.size, 0, none⟩)) (by kernel_rfl) (by kernel_rfl)) _ _ (hA1.keep hB) _ _ uArr64 sArr64
    · obtain rfl := Option.some.inj ho
      obtain rfl := Option.some.inj hc
      exact wp_callB 10 [.tmp 10] _ rfl [.agg (u8s 64 a1)] (by simp only [List.map_cons, List.map_nil, (hrd 1 _ _ 10 rfl rfl rfl (by kernel_rfl) (by kernel_rfl))]) Try.call10 _ (toPoly_any a1 w2)
    · obtain rfl := Option.some.inj ho
      obtain rfl := Option.some.inj hc
      exact wp_loadS 28 _ rfl _ (hpar 5 (.pointer (some ⟨w.heap.size + 1, 0, none⟩)) (by kernel_rfl) (by kernel_rfl)) _ _ (hA2.keep hB) tLForm sLForm
    · obtain rfl := Option.some.inj ho
      obtain rfl := Option.some.inj hc
      exact wp_callB 13 [.tmp 12] _ rfl [.agg (u8s 128 a2)] (by simp only [List.map_cons, List.map_nil, (hrd 3 _ _ 12 rfl rfl rfl (by kernel_rfl) (by kernel_rfl))]) Try.call13 _ (toForm_all a2 w2)
    · obtain rfl := Option.some.inj ho
      obtain rfl := Option.some.inj hc
      exact wp_callB 12 [.tmp 9, .tmp 11, .tmp 13] _ rfl [.int .i64 a0, .agg (u8s 64 a1), .agg (u8s 128 a2)] (by simp only [List.map_cons, List.map_nil, (hrd 0 _ _ 9 rfl rfl rfl (by kernel_rfl) (by kernel_rfl)), (hrd 2 _ _ 11 rfl rfl rfl (by kernel_rfl) (by kernel_rfl)), (hrd 4 _ _ 13 rfl rfl rfl (by kernel_rfl) (by kernel_rfl))]) Try.call12 _ (HS.out w2)
    · obtain rfl := Option.some.inj ho
      obtain rfl := Option.some.inj hc
      exact wp_assign _ (.bool r0) rfl (hrd 5 _ _ 14 rfl rfl rfl (by kernel_rfl) (by kernel_rfl))
    · cases hc
  intro vals xS hB hc hr
  have e0 : vals 0 = .int .i64 a0 := hc 0 _ (by simp) rfl
  have e1 : vals 1 = .agg (u8s 64 a1) := hc 1 _ (by simp) rfl
  have e2 : vals 2 = .agg (u8s 64 a1) := hc 2 _ (by simp) rfl
  have e3 : vals 3 = .agg (u8s 128 a2) := hc 3 _ (by simp) rfl
  have e4 : vals 4 = .agg (u8s 128 a2) := hc 4 _ (by simp) rfl
  have e5 : vals 5 = .bool r0 := hc 5 _ (by simp) rfl
  have e6 : vals 6 = .bool r0 := hc 6 _ (by simp) rfl
  simp only [List.length_cons, List.length_nil, Nat.zero_add, Nat.reduceAdd, List.replicate, putAll, if_true, Act.put, List.setIfInBounds_toArray, List.set_cons_zero, List.set_cons_succ, e0, e1, e2, e3, e4, e5, e6]
  replace hA1 := hA1.keep hB
  replace hA2 := hA2.keep hB
  replace hb := below_step hb hB
  clear hB hc hr e0 e1 e2 e3 e4 e5 e6
  go_upto_region 2 with (fail)
  refine law_region2 (by kernel_rfl) (by kernel_rfl) (by kernel_rfl) (by kernel_rfl)
    (fun i => ([some (.int .i64 a0), some (.agg (u8s 64 a1)), some (.agg (u8s 64 a1)), some (.agg (u8s 128 a2)), some (.agg (u8s 128 a2)), some (.bool r0), some (.bool r0)] : List (Option Value)).getD i none) 0 (fun k => [].getD k 0) (fun k => [].getD k 0) (fun k => [].getD k 0) (fun k => [].getD k 0) (fun k => [].getD k 0) (fun k => [].getD k 0) (fun k => [].getD k (fun _ => 0)) (fun k => [].getD k 0) ?_ ?_ ?_ ?_ ?_ ?_
  · intro i hi
    rcases i with _|_|_|_|_|_|_|i
    · exact .inl ⟨_, rfl⟩
    · exact .inl ⟨_, rfl⟩
    · exact .inl ⟨_, rfl⟩
    · exact .inl ⟨_, rfl⟩
    · exact .inl ⟨_, rfl⟩
    · exact .inl ⟨_, rfl⟩
    · exact .inl ⟨_, rfl⟩
    · simp only [List.length_cons, List.length_nil] at hi; omega
  · intro k hk
    rcases k with k
    · omega
  · intro k hk k' hk'
    rcases k with k
    all_goals rcases k' with k'
    all_goals first | omega | exact ⟨by decide, by decide, by decide⟩
  · intro k hk
    rcases k with k
    · omega
  · intro i o c ho hc a w2 hB hrd hpar
    rcases i with _|_|_|_|_|_|_|i
    · obtain rfl := Option.some.inj ho
      obtain rfl := Option.some.inj hc
      exact wp_move _ (.int .i64 a0) rfl (hpar 0 _ (by kernel_rfl) (by kernel_rfl))
    · obtain rfl := Option.some.inj ho
      obtain rfl := Option.some.inj hc
      exact wp_loadB 22 _ rfl _ (hpar 4 (.pointer (some ⟨w.heap.size, 0, none⟩)) (by kernel_rfl) (by kernel_rfl)) _ _ (hA1.keep hB) _ _ uArr64 sArr64
    · obtain rfl := Option.some.inj ho
      obtain rfl := Option.some.inj hc
      exact wp_callB 10 [.tmp 16] _ rfl [.agg (u8s 64 a1)] (by simp only [List.map_cons, List.map_nil, (hrd 1 _ _ 16 rfl rfl rfl (by kernel_rfl) (by kernel_rfl))]) Try.call10 _ (toPoly_any a1 w2)
    · obtain rfl := Option.some.inj ho
      obtain rfl := Option.some.inj hc
      exact wp_loadS 28 _ rfl _ (hpar 5 (.pointer (some ⟨w.heap.size + 1, 0, none⟩)) (by kernel_rfl) (by kernel_rfl)) _ _ (hA2.keep hB) tLForm sLForm
    · obtain rfl := Option.some.inj ho
      obtain rfl := Option.some.inj hc
      exact wp_callB 13 [.tmp 18] _ rfl [.agg (u8s 128 a2)] (by simp only [List.map_cons, List.map_nil, (hrd 3 _ _ 18 rfl rfl rfl (by kernel_rfl) (by kernel_rfl))]) Try.call13 _ (toForm_all a2 w2)
    · obtain rfl := Option.some.inj ho
      obtain rfl := Option.some.inj hc
      exact wp_callB 14 [.tmp 15, .tmp 17, .tmp 19] _ rfl [.int .i64 a0, .agg (u8s 64 a1), .agg (u8s 128 a2)] (by simp only [List.map_cons, List.map_nil, (hrd 0 _ _ 15 rfl rfl rfl (by kernel_rfl) (by kernel_rfl)), (hrd 2 _ _ 17 rfl rfl rfl (by kernel_rfl) (by kernel_rfl)), (hrd 4 _ _ 19 rfl rfl rfl (by kernel_rfl) (by kernel_rfl))]) Try.call14 _ (HI.out w2)
    · obtain rfl := Option.some.inj ho
      obtain rfl := Option.some.inj hc
      exact wp_assign _ (.bool r0) rfl (hrd 5 _ _ 20 rfl rfl rfl (by kernel_rfl) (by kernel_rfl))
    · cases hc
  intro vals xI hB hc hr
  have e0 : vals 0 = .int .i64 a0 := hc 0 _ (by simp) rfl
  have e1 : vals 1 = .agg (u8s 64 a1) := hc 1 _ (by simp) rfl
  have e2 : vals 2 = .agg (u8s 64 a1) := hc 2 _ (by simp) rfl
  have e3 : vals 3 = .agg (u8s 128 a2) := hc 3 _ (by simp) rfl
  have e4 : vals 4 = .agg (u8s 128 a2) := hc 4 _ (by simp) rfl
  have e5 : vals 5 = .bool r0 := hc 5 _ (by simp) rfl
  have e6 : vals 6 = .bool r0 := hc 6 _ (by simp) rfl
  simp only [List.length_cons, List.length_nil, Nat.zero_add, Nat.reduceAdd, List.replicate, putAll, if_true, Act.put, List.setIfInBounds_toArray, List.set_cons_zero, List.set_cons_succ, e0, e1, e2, e3, e4, e5, e6]
  replace hA1 := hA1.keep hB
  replace hA2 := hA2.keep hB
  replace hb := below_step hb hB
  clear hB hc hr e0 e1 e2 e3 e4 e5 e6
  go_wp2_with fail
  go_ret
  exact ⟨rfl, hb⟩
end Go.Proofs.Ytohgjihccjnheaa
