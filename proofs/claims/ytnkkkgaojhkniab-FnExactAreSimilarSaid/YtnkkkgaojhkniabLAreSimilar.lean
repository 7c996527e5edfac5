/- The law FnExactAreSimilar, walked. -/
import Derived.Test.YtnkkkgaojhkniabSp9
import Derived.Test.YtnkkkgaojhkniabRegs
set_option linter.unusedVariables false
set_option linter.unusedSimpArgs false
namespace Go.Proofs.Ytnkkkgaojhkniab
open Go.RowKit
set_option maxRecDepth 20000 in
set_option maxHeartbeats 2000000 in
theorem lawAreSimilar_any (a0 : Int) (a1 : Int) (a2 : Nat → Int) (a3 : Nat → Int) (w : World) (w0 : (Lit.int .i64 a0).wf = true) (w1 : (Lit.int .i64 a1).wf = true) (w2 : ∀ i, 0 ≤ a2 i ∧ a2 i ≤ 255) (w3 : ∀ i, 0 ≤ a3 i ∧ a3 i ≤ 255) :
    Calls Try.prog 4 #[.int .i64 a0, .int .i64 a1, .agg (u8s 36 a2), .agg (u8s 36 a3)] w fun e w' => e = .returned (.bool true) ∧ Below w.heap.size w w' := by
  obtain ⟨r0, r1, hS, hI⟩ := AreSimilar_pair a0 a1 a2 a3 w0 w1 w2 w3
  have HS := Lib.hid hS
  have HI := Lib.hid hI
  clear hS hI w0 w1 w2 w3
  obtain ⟨hb, hA2, hA3⟩ := boxes2 w (u8s 36 a2) (u8s 36 a3) 23 23
  go_enter Try.func4, Try.ntmps4
  go_upto_region 1 with (fail)
  refine law_region2 (by kernel_rfl) (by kernel_rfl) (by kernel_rfl) (by kernel_rfl)
    (fun i => ([some (.int .i64 a0), some (.int .i64 a1), some (.agg (u8s 36 a2)), some (.agg (u8s 36 a2)), some (.agg (u8s 36 a3)), some (.agg (u8s 36 a3)), some (.tuple #[.bool r0, .int .i64 r1]), some (.tuple #[.bool r0, .int .i64 r1]), some (.bool r0), some (.int .i64 r1), some (.bool r0), some (.int .i64 r1)] : List (Option Value)).getD i none) 0 (fun k => [].getD k 0) (fun k => [].getD k 0) (fun k => [].getD k 0) (fun k => [].getD k 0) (fun k => [].getD k 0) (fun k => [].getD k 0) (fun k => [].getD k (fun _ => 0)) (fun k => [].getD k 0) ?_ ?_ ?_ ?_ ?_ ?_
  · intro i hi
    rcases i with _|_|_|_|_|_|_|_|_|_|_|_|i
    · exact .inl ⟨_, rfl⟩
    · exact .inl ⟨_, rfl⟩
    · exact .inl ⟨_, rfl⟩
    · exact .inl ⟨_, rfl⟩
    · exact .inl ⟨_, rfl⟩
    · exact .inl ⟨_, rfl⟩
    · exact .inl ⟨_, rfl⟩
    · exact .inl ⟨_, rfl⟩
    · exact .inl ⟨_, rfl⟩
    · exact .inl ⟨_, rfl⟩
    · exact .inl ⟨_, rfl⟩
    · exact .inl ⟨_, rfl⟩
    · simp only [List.length_cons, List.length_nil] at hi; omega
  · intro k hk
    rcases k with k
    · omega
  · intro k hk k' hk'
    rcases k with k
    all_goals rcases k' with k'
    all_goals first | omega | exact ⟨by decide, by decide, by decide⟩
  · intro k hk
    rcases k with k
    · omega
  · intro i o c ho hc a w2 hB hrd hpar
    rcases i with _|_|_|_|_|_|_|_|_|_|_|_|i
    · obtain rfl := Option.some.inj ho
      obtain rfl := Option.some.inj hc
      exact wp_move _ (.int .i64 a0) rfl (hpar 0 _ (by kernel_rfl) (by kernel_rfl))
    · obtain rfl := Option.some.inj ho
      obtain rfl := Option.some.inj hc
      exact wp_move _ (.int .i64 a1) rfl (hpar 1 _ (by kernel_rfl) (by kernel_rfl))
    · obtain rfl := Option.some.inj ho
      obtain rfl := Option.some.inj hc
      exact wp_loadB 23 _ rfl _ (hpar 6 (.pointer (some ⟨w.heap.size, 0, none⟩)) (by kernel_rfl) (by kernel_rfl)) _ _ (hA2.keep hB) _ _ uArr66 sArr66
    · obtain rfl := Option.some.inj ho
      obtain rfl := Option.some.inj hc
      exact wp_callB 10 [.tmp 16] _ rfl [.agg (u8s 36 a2)] (by simp only [List.map_cons, List.map_nil, (hrd 2 _ _ 16 rfl rfl rfl (by kernel_rfl) (by kernel_rfl))]) Try.call10 _ (toSquare_any a2 w2)
    · obtain rfl := Option.some.inj ho
      obtain rfl := Option.some.inj hc
      exact wp_loadB 23 _ rfl _ (hpar 7 (.pointer (some ⟨w.heap.size + 1, 0, none⟩)) (by kernel_rfl) (by kernel_rfl)) _ _ (hA3.keep hB) _ _ uArr66 sArr66
    · obtain rfl := Option.some.inj ho
      obtain rfl := Option.some.inj hc
      exact wp_callB 10 [.tmp 18] _ rfl [.agg (u8s 36 a3)] (by simp only [List.map_cons, List.map_nil, (hrd 4 _ _ 18 rfl rfl rfl (by kernel_rfl) (by kernel_rfl))]) Try.call10 _ (toSquare_any a3 w2)
    · obtain rfl := Option.some.inj ho
      obtain rfl := Option.some.inj hc
      exact wp_callB 13 [.tmp 14, .tmp 15, .tmp 17, .tmp 19] _ rfl [.int .i64 a0, .int .i64 a1, .agg (u8s 36 a2), .agg (u8s 36 a3)] (by simp only [List.map_cons, List.map_nil, (hrd 0 _ _ 14 rfl rfl rfl (by kernel_rfl) (by kernel_rfl)), (hrd 1 _ _ 15 rfl rfl rfl (by kernel_rfl) (by kernel_rfl)), (hrd 3 _ _ 17 rfl rfl rfl (by kernel_rfl) (by kernel_rfl)), (hrd 5 _ _ 19 rfl rfl rfl (by kernel_rfl) (by kernel_rfl))]) Try.call13 _ (HS.out w2)
    · obtain rfl := Option.some.inj ho
      obtain rfl := Option.some.inj hc
      exact wp_move _ (.tuple #[.bool r0, .int .i64 r1]) rfl (hrd 6 _ _ 20 rfl rfl rfl (by kernel_rfl) (by kernel_rfl))
    · obtain rfl := Option.some.inj ho
      obtain rfl := Option.some.inj hc
      exact wp_extract _ 0 #[.bool r0, .int .i64 r1] _ rfl (hrd 7 _ _ 13 rfl rfl rfl (by kernel_rfl) (by kernel_rfl)) rfl
    · obtain rfl := Option.some.inj ho
      obtain rfl := Option.some.inj hc
      exact wp_extract _ 1 #[.bool r0, .int .i64 r1] _ rfl (hrd 7 _ _ 13 rfl rfl rfl (by kernel_rfl) (by kernel_rfl)) rfl
    · obtain rfl := Option.some.inj ho
      obtain rfl := Option.some.inj hc
      exact wp_assign _ (.bool r0) rfl (hrd 8 _ _ 21 rfl rfl rfl (by kernel_rfl) (by kernel_rfl))
    · obtain rfl := Option.some.inj ho
      obtain rfl := Option.some.inj hc
      exact wp_assign _ (.int .i64 r1) rfl (hrd 9 _ _ 22 rfl rfl rfl (by kernel_rfl) (by kernel_rfl))
    · cases hc
  intro vals xS hB hc hr
  have e0 : vals 0 = .int .i64 a0 := hc 0 _ (by simp) rfl
  have e1 : vals 1 = .int .i64 a1 := hc 1 _ (by simp) rfl
  have e2 : vals 2 = .agg (u8s 36 a2) := hc 2 _ (by simp) rfl
  have e3 : vals 3 = .agg (u8s 36 a2) := hc 3 _ (by simp) rfl
  have e4 : vals 4 = .agg (u8s 36 a3) := hc 4 _ (by simp) rfl
  have e5 : vals 5 = .agg (u8s 36 a3) := hc 5 _ (by simp) rfl
  have e6 : vals 6 = (.tuple #[.bool r0, .int .i64 r1]) := hc 6 _ (by simp) rfl
  have e7 : vals 7 = (.tuple #[.bool r0, .int .i64 r1]) := hc 7 _ (by simp) rfl
  have e8 : vals 8 = .bool r0 := hc 8 _ (by simp) rfl
  have e9 : vals 9 = .int .i64 r1 := hc 9 _ (by simp) rfl
  have e10 : vals 10 = .bool r0 := hc 10 _ (by simp) rfl
  have e11 : vals 11 = .int .i64 r1 := hc 11 _ (by simp) rfl
  simp only [List.length_cons, List.length_nil, Nat.zero_add, Nat.reduceAdd, List.replicate, putAll, if_true, Act.put, List.setIfInBounds_toArray, List.set_cons_zero, List.set_cons_succ, e0, e1, e2, e3, e4, e5, e6, e7, e8, e9, e10, e11]
  replace hA2 := hA2.keep hB
  replace hA3 := hA3.keep hB
  replace hb := below_step hb hB
  clear hB hc hr e0 e1 e2 e3 e4 e5 e6 e7 e8 e9 e10 e11
  go_upto_region 2 with (fail)
  refine law_region2 (by kernel_rfl) (by kernel_rfl) (by kernel_rfl) (by kernel_rfl)
    (fun i => ([some (.int .i64 a0), some (.int .i64 a1), some (.agg (u8s 36 a2)), some (.agg (u8s 36 a2)), some (.agg (u8s 36 a3)), some (.agg (u8s 36 a3)), some (.tuple #[.bool r0, .int .i64 r1]), some (.tuple #[.bool r0, .int .i64 r1]), some (.bool r0), some (.int .i64 r1), some (.bool r0), some (.int .i64 r1)] : List (Option Value)).getD i none) 0 (fun k => [].getD k 0) (fun k => [].getD k 0) (fun k => [].getD k 0) (fun k => [].getD k 0) (fun k => [].getD k 0) (fun k => [].getD k 0) (fun k => [].getD k (fun _ => 0)) (fun k => [].getD k 0) ?_ ?_ ?_ ?_ ?_ ?_
  · intro i hi
    rcases i with _|_|_|_|_|_|_|_|_|_|_|_|i
    · exact .inl ⟨_, rfl⟩
    · exact .inl ⟨_, rfl⟩
    · exact .inl ⟨_, rfl⟩
    · exact .inl ⟨_, rfl⟩
    · exact .inl ⟨_, rfl⟩
    · exact .inl ⟨_, rfl⟩
    · exact .inl ⟨_, rfl⟩
    · exact .inl ⟨_, rfl⟩
    · exact .inl ⟨_, rfl⟩
    · exact .inl ⟨_, rfl⟩
    · exact .inl ⟨_, rfl⟩
    · exact .inl ⟨_, rfl⟩
    · simp only [List.length_cons, List.length_nil] at hi; omega
  · intro k hk
    rcases k with k
    · omega
  · intro k hk k' hk'
    rcases k with k
    all_goals rcases k' with k'
    all_goals first | omega | exact ⟨by decide, by decide, by decide⟩
  · intro k hk
    rcases k with k
    · omega
  · intro i o c ho hc a w2 hB hrd hpar
    rcases i with _|_|_|_|_|_|_|_|_|_|_|_|i
    · obtain rfl := Option.some.inj ho
      obtain rfl := Option.some.inj hc
      exact wp_move _ (.int .i64 a0) rfl (hpar 0 _ (by kernel_rfl) (by kernel_rfl))
    · obtain rfl := Option.some.inj ho
      obtain rfl := Option.some.inj hc
      exact wp_move _ (.int .i64 a1) rfl (hpar 1 _ (by kernel_rfl) (by kernel_rfl))
    · obtain rfl := Option.some.inj ho
      obtain rfl := Option.some.inj hc
      exact wp_loadB 23 _ rfl _ (hpar 6 (.pointer (some ⟨w.heap.size, 0, none⟩)) (by kernel_rfl) (by kernel_rfl)) _ _ (hA2.keep hB) _ _ uArr66 sArr66
    · obtain rfl := Option.some.inj ho
      obtain rfl := Option.some.inj hc
      exact wp_callB 10 [.tmp 26] _ rfl [.agg (u8s 36 a2)] (by simp only [List.map_cons, List.map_nil, (hrd 2 _ _ 26 rfl rfl rfl (by kernel_rfl) (by kernel_rfl))]) Try.call10 _ (toSquare_any a2 w2)
    · obtain rfl := Option.some.inj ho
      obtain rfl := Option.some.inj hc
      exact wp_loadB 23 _ rfl _ (hpar 7 (.pointer (some ⟨w.heap.size + 1, 0, none⟩)) (by kernel_rfl) (by kernel_rfl)) _ _ (hA3.keep hB) _ _ uArr66 sArr66
    · obtain rfl := Option.some.inj ho
      obtain rfl := Option.some.inj hc
      exact wp_callB 10 [.tmp 28] _ rfl [.agg (u8s 36 a3)] (by simp only [List.map_cons, List.map_nil, (hrd 4 _ _ 28 rfl rfl rfl (by kernel_rfl) (by kernel_rfl))]) Try.call10 _ (toSquare_any a3 w2)
    · obtain rfl := Option.some.inj ho
      obtain rfl := Option.some.inj hc
      exact wp_callB 14 [.tmp 24, .tmp 25, .tmp 27, .tmp 29] _ rfl [.int .i64 a0, .int .i64 a1, .agg (u8s 36 a2), .agg (u8s 36 a3)] (by simp only [List.map_cons, List.map_nil, (hrd 0 _ _ 24 rfl rfl rfl (by kernel_rfl) (by kernel_rfl)), (hrd 1 _ _ 25 rfl rfl rfl (by kernel_rfl) (by kernel_rfl)), (hrd 3 _ _ 27 rfl rfl rfl (by kernel_rfl) (by kernel_rfl)), (hrd 5 _ _ 29 rfl rfl rfl (by kernel_rfl) (by kernel_rfl))]) Try.call14 _ (HI.out w2)
    · obtain rfl := Option.some.inj ho
      obtain rfl := Option.some.inj hc
      exact wp_move _ (.tuple #[.bool r0, .int .i64 r1]) rfl (hrd 6 _ _ 30 rfl rfl rfl (by kernel_rfl) (by kernel_rfl))
    · obtain rfl := Option.some.inj ho
      obtain rfl := Option.some.inj hc
      exact wp_extract _ 0 #[.bool r0, .int .i64 r1] _ rfl (hrd 7 _ _ 23 rfl rfl rfl (by kernel_rfl) (by kernel_rfl)) rfl
    · obtain rfl := Option.some.inj ho
      obtain rfl := Option.some.inj hc
      exact wp_extract _ 1 #[.bool r0, .int .i64 r1] _ rfl (hrd 7 _ _ 23 rfl rfl rfl (by kernel_rfl) (by kernel_rfl)) rfl
    · obtain rfl := Option.some.inj ho
      obtain rfl := Option.some.inj hc
      exact wp_assign _ (.bool r0) rfl (hrd 8 _ _ 31 rfl rfl rfl (by kernel_rfl) (by kernel_rfl))
    · obtain rfl := Option.some.inj ho
      obtain rfl := Option.some.inj hc
      exact wp_assign _ (.int .i64 r1) rfl (hrd 9 _ _ 32 rfl rfl rfl (by kernel_rfl) (by kernel_rfl))
    · cases hc
  intro vals xI hB hc hr
  have e0 : vals 0 = .int .i64 a0 := hc 0 _ (by simp) rfl
  have e1 : vals 1 = .int .i64 a1 := hc 1 _ (by simp) rfl
  have e2 : vals 2 = .agg (u8s 36 a2) := hc 2 _ (by simp) rfl
  have e3 : vals 3 = .agg (u8s 36 a2) := hc 3 _ (by simp) rfl
  have e4 : vals 4 = .agg (u8s 36 a3) := hc 4 _ (by simp) rfl
  have e5 : vals 5 = .agg (u8s 36 a3) := hc 5 _ (by simp) rfl
  have e6 : vals 6 = (.tuple #[.bool r0, .int .i64 r1]) := hc 6 _ (by simp) rfl
  have e7 : vals 7 = (.tuple #[.bool r0, .int .i64 r1]) := hc 7 _ (by simp) rfl
  have e8 : vals 8 = .bool r0 := hc 8 _ (by simp) rfl
  have e9 : vals 9 = .int .i64 r1 := hc 9 _ (by simp) rfl
  have e10 : vals 10 = .bool r0 := hc 10 _ (by simp) rfl
  have e11 : vals 11 = .int .i64 r1 := hc 11 _ (by simp) rfl
  simp only [List.length_cons, List.length_nil, Nat.zero_add, Nat.reduceAdd, List.replicate, putAll, if_true, Act.put, List.setIfInBounds_toArray, List.set_cons_zero, List.set_cons_succ, e0, e1, e2, e3, e4, e5, e6, e7, e8, e9, e10, e11]
  replace hA2 := hA2.keep hB
  replace hA3 := hA3.keep hB
  replace hb := below_step hb hB
  clear hB hc hr e0 e1 e2 e3 e4 e5 e6 e7 e8 e9 e10 e11
  go_wp2_with fail
  go_ret
  exact ⟨rfl, hb⟩
end Go.Proofs.Ytnkkkgaojhkniab
