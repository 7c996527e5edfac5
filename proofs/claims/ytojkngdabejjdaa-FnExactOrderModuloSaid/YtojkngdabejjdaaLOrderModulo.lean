/- The law FnExactOrderModulo, walked. -/
import Derived.Test.YtojkngdabejjdaaO5
import Derived.Test.YtojkngdabejjdaaRegs
set_option linter.unusedVariables false
set_option linter.unusedSimpArgs false
namespace Go.Proofs.Ytojkngdabejjdaa
open Go.RowKit
set_option maxRecDepth 20000 in
set_option maxHeartbeats 2000000 in
theorem lawOrderModulo_any (a0 : Int) (a1 : Nat → Int) (a2 : Nat → Int) (w : World) (w0 : (Lit.int .i64 a0).wf = true) (w1 : ∀ i, 0 ≤ a1 i ∧ a1 i ≤ 255) (w2 : ∀ i, 0 ≤ a2 i ∧ a2 i ≤ 255) :
    Calls Try.prog 3 #[.int .i64 a0, .agg (u8s 64 a1), .agg (u8s 64 a2)] w fun e w' => e = .returned (.bool true) ∧ Below w.heap.size w w' := by
  obtain ⟨r0, r1, hS, hI⟩ := OrderModulo_pair a0 a1 a2 w0 w1 w2
  have HS := Lib.hid hS
  have HI := Lib.hid hI
  clear hS hI w0 w1 w2
  obtain ⟨hb, hA1, hA2⟩ := boxes2 w (u8s 64 a1) (u8s 64 a2) 22 22
  go_enter Try.func3, Try.ntmps3
  go_upto_region 1 with (fail)
  refine law_region2 (by kernel_rfl) (by kernel_rfl) (by kernel_rfl) (by kernel_rfl)
    (fun i => ([some (.int .i64 a0), some (.agg (u8s 64 a1)), some (.agg (u8s 64 a1)), some (.agg (u8s 64 a2)), some (.agg (u8s 64 a2)), some (.tuple #[.int .i64 r0, .int .i64 r1]), some (.tuple #[.int .i64 r0, .int .i64 r1]), some (.int .i64 r0), some (.int .i64 r1), some (.int .i64 r0), some (.int .i64 r1)] : List (Option Value)).getD i none) 0 (fun k => [].getD k 0) (fun k => [].getD k 0) (fun k => [].getD k 0) (fun k => [].getD k 0) (fun k => [].getD k 0) (fun k => [].getD k 0) (fun k => [].getD k (fun _ => 0)) (fun k => [].getD k 0) ?_ ?_ ?_ ?_ ?_ ?_
  · intro i hi
    rcases i with _|_|_|_|_|_|_|_|_|_|_|i
    · exact .inl ⟨_, rfl⟩
    · exact .inl ⟨_, rfl⟩
    · exact .inl ⟨_, rfl⟩
    · exact .inl ⟨_, rfl⟩
    · exact .inl ⟨_, rfl⟩
    · exact .inl ⟨_, rfl⟩
    · exact .inl ⟨_, rfl⟩
    · exact .inl ⟨_, rfl⟩
    · exact .inl ⟨_, rfl⟩
    · exact .inl ⟨_, rfl⟩
    · exact .inl ⟨_, rfl⟩
    · simp only [List.length_cons, List.length_nil] at hi; omega
  · intro k hk
    rcases k with k
    · omega
  · intro k hk k' hk'
    rcases k with k
    all_goals rcases k' with k'
    all_goals first | omega | exact ⟨by decide, by decide, by decide⟩
  · intro k hk
    rcases k with k
    · omega
  · intro i o c ho hc a w2 hB hrd hpar
    rcases i with _|_|_|_|_|_|_|_|_|_|_|i
    · obtain rfl := Option.some.inj ho
      obtain rfl := Option.some.inj hc
      exact wp_move _ (.int .i64 a0) rfl (hpar 0 _ (by kernel_rfl) (by kernel_rfl))
    · obtain rfl := Option.some.inj ho
      obtain rfl := Option.some.inj hc
      exact wp_loadB 22 _ rfl _ (hpar 4 (.pointer (some ⟨w.heap.size, 0, none⟩)) (by kernel_rfl) (by kernel_rfl)) _ _ (hA1.keep hB) _ _ uArr64 sArr64
    · obtain rfl := Option.some.inj ho
      obtain rfl := Option.some.inj hc
      exact wp_callB 5 [.tmp 13] _ rfl [.agg (u8s 64 a1)] (by simp only [List.map_cons, List.map_nil, (hrd 1 _ _ 13 rfl rfl rfl (by kernel_rfl) (by kernel_rfl))]) Try.call5 _ (toPoly_any a1 w2)
    · obtain rfl := Option.some.inj ho
      obtain rfl := Option.some.inj hc
      exact wp_loadB 22 _ rfl _ (hpar 5 (.pointer (some ⟨w.heap.size + 1, 0, none⟩)) (by kernel_rfl) (by kernel_rfl)) _ _ (hA2.keep hB) _ _ uArr64 sArr64
    · obtain rfl := Option.some.inj ho
      obtain rfl := Option.some.inj hc
      exact wp_callB 5 [.tmp 15] _ rfl [.agg (u8s 64 a2)] (by simp only [List.map_cons, List.map_nil, (hrd 3 _ _ 15 rfl rfl rfl (by kernel_rfl) (by kernel_rfl))]) Try.call5 _ (toPoly_any a2 w2)
    · obtain rfl := Option.some.inj ho
      obtain rfl := Option.some.inj hc
      exact wp_callB 4 [.tmp 12, .tmp 14, .tmp 16] _ rfl [.int .i64 a0, .agg (u8s 64 a1), .agg (u8s 64 a2)] (by simp only [List.map_cons, List.map_nil, (hrd 0 _ _ 12 rfl rfl rfl (by kernel_rfl) (by kernel_rfl)), (hrd 2 _ _ 14 rfl rfl rfl (by kernel_rfl) (by kernel_rfl)), (hrd 4 _ _ 16 rfl rfl rfl (by kernel_rfl) (by kernel_rfl))]) Try.call4 _ (HS.out w2)
    · obtain rfl := Option.some.inj ho
      obtain rfl := Option.some.inj hc
      exact wp_move _ (.tuple #[.int .i64 r0, .int .i64 r1]) rfl (hrd 5 _ _ 17 rfl rfl rfl (by kernel_rfl) (by kernel_rfl))
    · obtain rfl := Option.some.inj ho
      obtain rfl := Option.some.inj hc
      exact wp_extract _ 0 #[.int .i64 r0, .int .i64 r1] _ rfl (hrd 6 _ _ 11 rfl rfl rfl (by kernel_rfl) (by kernel_rfl)) rfl
    · obtain rfl := Option.some.inj ho
      obtain rfl := Option.some.inj hc
      exact wp_extract _ 1 #[.int .i64 r0, .int .i64 r1] _ rfl (hrd 6 _ _ 11 rfl rfl rfl (by kernel_rfl) (by kernel_rfl)) rfl
    · obtain rfl := Option.some.inj ho
      obtain rfl := Option.some.inj hc
      exact wp_assign _ (.int .i64 r0) rfl (hrd 7 _ _ 18 rfl rfl rfl (by kernel_rfl) (by kernel_rfl))
    · obtain rfl := Option.some.inj ho
      obtain rfl := Option.some.inj hc
      exact wp_assign _ (.int .i64 r1) rfl (hrd 8 _ _ 19 rfl rfl rfl (by kernel_rfl) (by kernel_rfl))
    · cases hc
  intro vals xS hB hc hr
  have e0 : vals 0 = .int .i64 a0 := hc 0 _ (by simp) rfl
  have e1 : vals 1 = .agg (u8s 64 a1) := hc 1 _ (by simp) rfl
  have e2 : vals 2 = .agg (u8s 64 a1) := hc 2 _ (by simp) rfl
  have e3 : vals 3 = .agg (u8s 64 a2) := hc 3 _ (by simp) rfl
  have e4 : vals 4 = .agg (u8s 64 a2) := hc 4 _ (by simp) rfl
  have e5 : vals 5 = (.tuple #[.int .i64 r0, .int .i64 r1]) := hc 5 _ (by simp) rfl
  have e6 : vals 6 = (.tuple #[.int .i64 r0, .int .i64 r1]) := hc 6 _ (by simp) rfl
  have e7 : vals 7 = .int .i64 r0 := hc 7 _ (by simp) rfl
  have e8 : vals 8 = .int .i64 r1 := hc 8 _ (by simp) rfl
  have e9 : vals 9 = .int .i64 r0 := hc 9 _ (by simp) rfl
  have e10 : vals 10 = .int .i64 r1 := hc 10 _ (by simp) rfl
  simp only [List.length_cons, List.length_nil, Nat.zero_add, Nat.reduceAdd, List.replicate, putAll, if_true, Act.put, List.setIfInBounds_toArray, List.set_cons_zero, List.set_cons_succ, e0, e1, e2, e3, e4, e5, e6, e7, e8, e9, e10]
  replace hA1 := hA1.keep hB
  replace hA2 := hA2.keep hB
  replace hb := below_step hb hB
  clear hB hc hr e0 e1 e2 e3 e4 e5 e6 e7 e8 e9 e10
  go_upto_region 2 with (fail)
  refine law_region2 (by kernel_rfl) (by kernel_rfl) (by kernel_rfl) (by kernel_rfl)
    (fun i => ([some (.int .i64 a0), some (.agg (u8s 64 a1)), some (.agg (u8s 64 a1)), some (.agg (u8s 64 a2)), some (.agg (u8s 64 a2)), some (.tuple #[.int .i64 r0, .int .i64 r1]), some (.tuple #[.int .i64 r0, .int .i64 r1]), some (.int .i64 r0), some (.int .i64 r1), some (.int .i64 r0), some (.int .i64 r1)] : List (Option Value)).getD i none) 0 (fun k => [].getD k 0) (fun k => [].getD k 0) (fun k => [].getD k 0) (fun k => [].getD k 0) (fun k => [].getD k 0) (fun k => [].getD k 0) (fun k => [].getD k (fun _ => 0)) (fun k => [].getD k 0) ?_ ?_ ?_ ?_ ?_ ?_
  · intro i hi
    rcases i with _|_|_|_|_|_|_|_|_|_|_|i
    · exact .inl ⟨_, rfl⟩
    · exact .inl ⟨_, rfl⟩
    · exact .inl ⟨_, rfl⟩
    · exact .inl ⟨_, rfl⟩
    · exact .inl ⟨_, rfl⟩
    · exact .inl ⟨_, rfl⟩
    · exact .inl ⟨_, rfl⟩
    · exact .inl ⟨_, rfl⟩
    · exact .inl ⟨_, rfl⟩
    · exact .inl ⟨_, rfl⟩
    · exact .inl ⟨_, rfl⟩
    · simp only [List.length_cons, List.length_nil] at hi; omega
  · intro k hk
    rcases k with k
    · omega
  · intro k hk k' hk'
    rcases k with k
    all_goals rcases k' with k'
    all_goals first | omega | exact ⟨by decide, by decide, by decide⟩
  · intro k hk
    rcases k with k
    · omega
  · intro i o c ho hc a w2 hB hrd hpar
    rcases i with _|_|_|_|_|_|_|_|_|_|_|i
    · obtain rfl := Option.some.inj ho
      obtain rfl := Option.some.inj hc
      exact wp_move _ (.int .i64 a0) rfl (hpar 0 _ (by kernel_rfl) (by kernel_rfl))
    · obtain rfl := Option.some.inj ho
      obtain rfl := Option.some.inj hc
      exact wp_loadB 22 _ rfl _ (hpar 4 (.pointer (some ⟨w.heap.size, 0, none⟩)) (by kernel_rfl) (by kernel_rfl)) _ _ (hA1.keep hB) _ _ uArr64 sArr64
    · obtain rfl := Option.some.inj ho
      obtain rfl := Option.some.inj hc
      exact wp_callB 5 [.tmp 22] _ rfl [.agg (u8s 64 a1)] (by simp only [List.map_cons, List.map_nil, (hrd 1 _ _ 22 rfl rfl rfl (by kernel_rfl) (by kernel_rfl))]) Try.call5 _ (toPoly_any a1 w2)
    · obtain rfl := Option.some.inj ho
      obtain rfl := Option.some.inj hc
      exact wp_loadB 22 _ rfl _ (hpar 5 (.pointer (some ⟨w.heap.size + 1, 0, none⟩)) (by kernel_rfl) (by kernel_rfl)) _ _ (hA2.keep hB) _ _ uArr64 sArr64
    · obtain rfl := Option.some.inj ho
      obtain rfl := Option.some.inj hc
      exact wp_callB 5 [.tmp 24] _ rfl [.agg (u8s 64 a2)] (by simp only [List.map_cons, List.map_nil, (hrd 3 _ _ 24 rfl rfl rfl (by kernel_rfl) (by kernel_rfl))]) Try.call5 _ (toPoly_any a2 w2)
    · obtain rfl := Option.some.inj ho
      obtain rfl := Option.some.inj hc
      exact wp_callB 6 [.tmp 21, .tmp 23, .tmp 25] _ rfl [.int .i64 a0, .agg (u8s 64 a1), .agg (u8s 64 a2)] (by simp only [List.map_cons, List.map_nil, (hrd 0 _ _ 21 rfl rfl rfl (by kernel_rfl) (by kernel_rfl)), (hrd 2 _ _ 23 rfl rfl rfl (by kernel_rfl) (by kernel_rfl)), (hrd 4 _ _ 25 rfl rfl rfl (by kernel_rfl) (by kernel_rfl))]) Try.call6 _ (HI.out w2)
    · obtain rfl := Option.some.inj ho
      obtain rfl := Option.some.inj hc
      exact wp_move _ (.tuple #[.int .i64 r0, .int .i64 r1]) rfl (hrd 5 _ _ 26 rfl rfl rfl (by kernel_rfl) (by kernel_rfl))
    · obtain rfl := Option.some.inj ho
      obtain rfl := Option.some.inj hc
      exact wp_extract _ 0 #[.int .i64 r0, .int .i64 r1] _ rfl (hrd 6 _ _ 20 rfl rfl rfl (by kernel_rfl) (by kernel_rfl)) rfl
    · obtain rfl := Option.some.inj ho
      obtain rfl := Option.some.inj hc
      exact wp_extract _ 1 #[.int .i64 r0, .int .i64 r1] _ rfl (hrd 6 _ _ 20 rfl rfl rfl (by kernel_rfl) (by kernel_rfl)) rfl
    · obtain rfl := Option.some.inj ho
      obtain rfl := Option.some.inj hc
      exact wp_assign _ (.int .i64 r0) rfl (hrd 7 _ _ 27 rfl rfl rfl (by kernel_rfl) (by kernel_rfl))
    · obtain rfl := Option.some.inj ho
      obtain rfl := Option.some.inj hc
      exact wp_assign _ (.int .i64 r1) rfl (hrd 8 _ _ 28 rfl rfl rfl (by kernel_rfl) (by kernel_rfl))
    · cases hc
  intro vals xI hB hc hr
  have e0 : vals 0 = .int .i64 a0 := hc 0 _ (by simp) rfl
  have e1 : vals 1 = .agg (u8s 64 a1) := hc 1 _ (by simp) rfl
  have e2 : vals 2 = .agg (u8s 64 a1) := hc 2 _ (by simp) rfl
  have e3 : vals 3 = .agg (u8s 64 a2) := hc 3 _ (by simp) rfl
  have e4 : vals 4 = .agg (u8s 64 a2) := hc 4 _ (by simp) rfl
  have e5 : vals 5 = (.tuple #[.int .i64 r0, .int .i64 r1]) := hc 5 _ (by simp) rfl
  have e6 : vals 6 = (.tuple #[.int .i64 r0, .int .i64 r1]) := hc 6 _ (by simp) rfl
  have e7 : vals 7 = .int .i64 r0 := hc 7 _ (by simp) rfl
  have e8 : vals 8 = .int .i64 r1 := hc 8 _ (by simp) rfl
  have e9 : vals 9 = .int .i64 r0 := hc 9 _ (by simp) rfl
  have e10 : vals 10 = .int .i64 r1 := hc 10 _ (by simp) rfl
  simp only [List.length_cons, List.length_nil, Nat.zero_add, Nat.reduceAdd, List.replicate, putAll, if_true, Act.put, List.setIfInBounds_toArray, List.set_cons_zero, List.set_cons_succ, e0, e1, e2, e3, e4, e5, e6, e7, e8, e9, e10]
  replace hA1 := hA1.keep hB
  replace hA2 := hA2.keep hB
  replace hb := below_step hb hB
  clear hB hc hr e0 e1 e2 e3 e4 e5 e6 e7 e8 e9 e10
  go_wp2_with fail
  go_ret
  exact ⟨rfl, hb⟩
end Go.Proofs.Ytojkngdabejjdaa
