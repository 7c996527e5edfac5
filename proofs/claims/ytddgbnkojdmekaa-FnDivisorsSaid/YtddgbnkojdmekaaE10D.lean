/- Walks: roots on both sides. -/
import Derived.Test.YtddgbnkojdmekaaCmn
set_option linter.unusedVariables false
set_option linter.unusedSimpArgs false
namespace Go.Proofs.Ytddgbnkojdmekaa
open Go.RowKit

/-- A row of numbers in a block of the call's own. -/
def OwnI (w : World) (base : Nat) (v : Value) (xs : List Int) : Prop := w.ownsRow base 2 1 v xs.length (xs.map fun x => .int .i64 x)
theorem owns_below {B : Nat} {e : TypeId} {k : Nat} {v : Value} {n : Nat} {xs : List Value} {w w' : World} (h : w.ownsRow B e k v n xs) (hb : Below w.heap.size w w') : w'.ownsRow B e k v n xs := by
  refine ⟨h.1, ?_⟩
  rcases h.2 with h1 | ⟨g, cap, cur, h1, h2, h3, h4⟩
  · exact .inl h1
  · exact .inr ⟨g, cap, cur, h1, h2, by rw [hb.block g (Array.getElem?_eq_some_iff.1 h3).1]; exact h3, h4⟩
theorem owns_mono {B B' : Nat} {e : TypeId} {k : Nat} {v : Value} {n : Nat} {xs : List Value} {w : World} (h : w.ownsRow B e k v n xs) (hb : B' ≤ B) : w.ownsRow B' e k v n xs := by
  refine ⟨h.1, ?_⟩
  rcases h.2 with h1 | ⟨g, cap, cur, h1, h2, h3⟩
  · exact .inl h1
  · exact .inr ⟨g, cap, cur, h1, by omega, h3⟩
theorem OwnI.below {w w' : World} {B : Nat} {v : Value} {xs : List Int} (h : OwnI w B v xs) (hb : Below w.heap.size w w') : OwnI w' B v xs := owns_below h hb
theorem OwnI.nil (w : World) (B : Nat) : OwnI w B (.slice none 0 0) [] := World.ownsRow_nil _ _ _ _
theorem OwnI.snoc {w : World} {B : Nat} {v : Value} {xs : List Int} {x : Int} (h : w.ownsRow B 2 1 v (xs.length + 1) ((xs.map fun x => .int .i64 x) ++ [.int .i64 x])) : OwnI w B v (xs ++ [x]) := by
  unfold OwnI
  rw [List.length_append, List.map_append]
  exact h
/-- The places below k where a test says yes. -/
def rootsL (h : Nat → Bool) (k : Nat) : List Int := ((List.range k).filter h).map fun n : Nat => (n : Int)
theorem rootsL_yes {h : Nat → Bool} {k : Nat} (hk : h k = true) : rootsL h (k + 1) = rootsL h k ++ [(k : Int)] := by
  unfold rootsL
  rw [List.range_succ, List.filter_append, List.filter_cons_of_pos hk, List.map_append]; rfl
theorem rootsL_no {h : Nat → Bool} {k : Nat} (hk : h k = false) : rootsL h (k + 1) = rootsL h k := by
  unfold rootsL
  rw [List.range_succ, List.filter_append, List.filter_cons_of_neg (by simp [hk]), List.filter_nil, List.append_nil]
theorem rootsL_len (h : Nat → Bool) (k : Nat) : (rootsL h k).length ≤ k := by
  unfold rootsL
  rw [List.length_map]
  exact Nat.le_trans (List.length_filter_le _ _) (by simp)
def roA (b z : Bool) (R : List Int) : List Int := if b then (if z then [] else R) else []
def roC (b z : Bool) : Int := if b then (if z then 5 else 0) else 1
def roPost (xs : List Int) (c : Int) (w : World) (e : Ending) (w' : World) : Prop := ∃ v, e = .returned (.tuple #[v, .int .i64 c]) ∧ OwnI w' w.heap.size v xs ∧ Below w.heap.size w w'

set_option maxRecDepth 20000 in
set_option maxHeartbeats 2000000 in
theorem specRootsOf_any (f : Nat → Int) (p : Int) (P : Nat) (b z : Bool) (h : Nat → Bool) (w : World) (hf : By f) (hb : Good p [f] ↔ b = true) (hz : decide ((mkp 64 f).length = 0) = z) (hP : Pr p → p = P) (hh : ∀ k : Nat, h k = decide (ev p k (mkp 64 f) = 0)) :
    Calls Try.prog 14 #[.int .i64 p, .agg (u8s 64 f)] w (roPost (roA b z (rootsL h P)) (roC b z) w) := by
  have hfH := Lib.hid hf
  have hbH := Lib.hid hb
  have hzH := Lib.hid hz
  have hPH := Lib.hid hP
  have hhH := Lib.hid hh
  clear hf hb hz hP hh
  have hb := below_new w (.cells (u8s 64 f) 25)
  have hA := Blk.new w (u8s 64 f) 25
  unfold roPost
  go_enter Try.func14, Try.ntmps14
  go_wp2_with ((with_reducible refine wpl_guard ?_); first | (refine wpl_load_arr rfl 25 _ rfl _ rfl _ _ hA _ _ uPoly sPoly ?_) | (refine wpl_buildSlice_polys rfl 77 25 1 _ rfl Try.underlying77 sPoly zPoly [f] rfl (by decide) (by decide) rfl ?_))
  refine (l01Code_lit [f] 1 64 rfl rfl (by omega) p _ _ _ (Blk.newAt (by simp) _ _) (by1 hfH.out) b hbH.out).mono ?_
  rintro e u0 ⟨rfl, hn⟩
  replace hA := (hA.alloc _).keep hn
  replace hb := below_step hb (below_step (below_new _ _) hn)
  clear hn
  cases b
  · go_wp2_with fail
    go_ret2
    exact ⟨_, rfl, OwnI.nil _ _, hb⟩
  have hG := hbH.out.2 (by first | rfl | trivial)
  have hp := hG.1
  have hp2 := hp.pos
  have hpP := hPH.out hp
  subst hpP
  have hx : P64 P (mkp 64 f) := hG.p64 (f := f) (by simp) hfH.out
  have hhk := hhH.out
  obtain ⟨xs, hxs⟩ : ∃ xs, mkp 64 f = xs := ⟨_, rfl⟩
  have hdg := fun w => l01Deg_any f w hfH.out.on
  have hpt := Lib.hid (fun (k : Nat) (w : World) (hk : k < P) => l01Point_any f P k w hp hfH.out (by omega) (by omega))
  have hev : Hid (∀ k : Nat, k < P → h k = decide (ev (P : Int) (k : Int) ((List.range 64).map f) = 0)) := fun k _ => by rw [hhk k, mkp, ev_trim]
  rw [hxs] at hdg hx
  have hz2 := hzH.out
  rw [hxs] at hz2
  obtain ⟨L, hL⟩ : ∃ L, xs.length = L := ⟨_, rfl⟩
  rw [hL] at hdg hz2
  have hdgH := Lib.hid hdg
  have hz3 := Lib.hid hz2
  clear hG hp hx hhk hxs hdg hz2 hL hzH hbH hPH hhH
  go_wp2_with ((with_reducible refine wpl_guard ?_); first | (refine wpl_load_arr rfl 25 _ rfl _ rfl _ _ hA _ _ uPoly sPoly ?_))
  refine (hdgH.out _).mono ?_
  rintro e u1 ⟨rfl, hn⟩
  replace hA := hA.keep hn
  replace hb := below_step hb hn
  clear hn
  cases z
  · have hl0 : ¬ (L : Int) - 1 < 0 := by have := of_decide_eq_false hz3.out; omega
    go_wp2_with (refine wpl_buildSlice_void rfl 36 2 rfl Try.underlying36 sInt ?_)
    have hown0 := Lib.hid (show OwnI (u1.alloc (.cells #[] 2)) (w.heap.size + 1) (.slice (some ⟨u1.heap.size, 0, none⟩) 0 0) (rootsL h 0) from owns_mono (owns_void u1 2) (by have := hA.lt; omega))
    replace hA := hA.alloc (.cells #[] 2)
    replace hb := below_step hb (below_new u1 (.cells #[] 2))
    go_loopw [7, 8] (fun v i wr => ∃ k : Nat, k ≤ P ∧ i = .int .i64 k ∧ Hid (OwnI wr (w.heap.size + 1) v (rootsL h k)) ∧ Blk wr w.heap.size (u8s 64 f) 25 ∧ Below w.heap.size w wr) (fun v i _ => P - (intOf i).toNat)
    case atStart => exact ⟨0, by omega, rfl, hown0, hA, hb⟩
    case round =>
      clear hA hb hown0
      obtain ⟨k, hk, rfl, hown, hA, hb⟩ := hrel
      by_cases hlt : k < P
      · have hlt2 : (k : Int) < (P : Int) := by omega
        obtain ⟨r, hr⟩ : ∃ r, h k = r := ⟨_, rfl⟩
        have hrk := hev.out k hlt
        have hpk := fun w => hpt.out k w hlt
        obtain ⟨y, hy⟩ : ∃ y, ev (P : Int) (k : Int) ((List.range 64).map f) = y := ⟨_, rfl⟩
        rw [hr, hy] at hrk
        rw [hy] at hpk
        have hpkH := Lib.hid hpk
        have hyb : (y == 0) = r := by rw [hrk]; by_cases e : y = 0 <;> simp [e]
        have hrH := Lib.hid hr
        clear hrk hr hpk hy
        go_wp2_with ((with_reducible refine wpl_guard ?_); first | (refine wpl_load_arr rfl 25 _ rfl _ rfl _ _ hA _ _ uPoly sPoly ?_))
        refine (hpkH.out _).mono ?_
        rintro e u5 ⟨rfl, hn⟩
        replace hA := hA.keep hn
        replace hown := Lib.hid (hown.out.below hn)
        replace hb := below_step hb hn
        clear hn
        cases r
        · go_wp2_with fail
          go_roundw
          case rel => exact ⟨k + 1, by omega, by go_num, by rw [rootsL_no hrH.out]; exact hown, hA, hb⟩
          case measure => simp [intOf] <;> omega
        · have hown2 := Lib.hid (World.ownsRow.alloc hown.out (.cells #[.int .i64 (k : Int)] 2))
          have hlen := rootsL_len h k
          have hszb := hb.size
          go_wp2_with (at_builtin; refine wpl_append_one rfl _ _ 36 rfl (w.heap.size + 1) 2 (.int .i64 0) 1 8 Try.underlying36 iInt rfl (by decide) (by decide) _ (rootsL h k).length _ rfl hown2.out u5.heap.size rfl [.int .i64 (k : Int)] rfl (one_new _ _ _) (by intro u hu; rw [List.mem_singleton] at hu; subst hu; rfl) (by omega) (by simp; omega) ?_; intro v' w2 hown3 hb2; have hown4 := Lib.hid (OwnI.snoc hown3); clear hown3)
          replace hA := (hA.alloc (.cells #[.int .i64 (k : Int)] 2)).below hb2 (by omega)
          replace hb := (hb.alloc (by have := hA.lt; omega) (.cells #[.int .i64 (k : Int)] 2)).trans (hb2.mono (by omega))
          clear hb2 hown2 hown
          go_wp2_with fail
          go_roundw
          case rel => exact ⟨k + 1, by omega, by go_num, by rw [rootsL_yes hrH.out]; exact hown4, hA, hb⟩
          case measure => simp [intOf] <;> omega
      · obtain rfl : k = P := by omega
        go_wp2_with fail
        go_ret2
        exact ⟨_, rfl, owns_mono hown.out (by omega), hb⟩
  · have hl0 : (L : Int) - 1 < 0 := by have := of_decide_eq_true hz3.out; omega
    go_wp2_with fail
    go_ret2
    exact ⟨_, rfl, OwnI.nil _ _, hb⟩

set_option maxRecDepth 20000 in
set_option maxHeartbeats 2000000 in
theorem implRootsOf_any (f : Nat → Int) (p : Int) (P : Nat) (b z : Bool) (h : Nat → Bool) (w : World) (hf : By f) (hb : Good p [f] ↔ b = true) (hz : decide ((mkp 64 f).length = 0) = z) (hP : Pr p → p = P) (hh : ∀ k : Nat, h k = decide (ev p k (mkp 64 f) = 0)) :
    Calls Try.prog 13 #[.int .i64 p, .agg (u8s 64 f)] w (roPost (roA b z (rootsL h P)) (roC b z) w) := by
  have hfH := Lib.hid hf
  have hbH := Lib.hid hb
  have hzH := Lib.hid hz
  have hPH := Lib.hid hP
  have hhH := Lib.hid hh
  clear hf hb hz hP hh
  have hb := below_new w (.cells (u8s 64 f) 25)
  have hA := Blk.new w (u8s 64 f) 25
  unfold roPost
  go_enter Try.func13, Try.ntmps13
  go_wp2_with ((with_reducible refine wpl_guard ?_); first | (refine wpl_load_arr rfl 25 _ rfl _ rfl _ _ hA _ _ uPoly sPoly ?_) | (refine wpl_buildSlice_polys rfl 77 25 1 _ rfl Try.underlying77 sPoly zPoly [f] rfl (by decide) (by decide) rfl ?_))
  refine (polysCode_lit [f] 1 64 rfl rfl (by omega) p _ _ _ (Blk.newAt (by simp) _ _) (by1 hfH.out) b hbH.out).mono ?_
  rintro e u0 ⟨rfl, hn⟩
  replace hA := (hA.alloc _).keep hn
  replace hb := below_step hb (below_step (below_new _ _) hn)
  clear hn
  cases b
  · go_wp2_with fail
    go_ret2
    exact ⟨_, rfl, OwnI.nil _ _, hb⟩
  have hG := hbH.out.2 (by first | rfl | trivial)
  have hp := hG.1
  have hp2 := hp.pos
  have hpP := hPH.out hp
  subst hpP
  have hx : P64 P (mkp 64 f) := hG.p64 (f := f) (by simp) hfH.out
  have hhk := hhH.out
  obtain ⟨xs, hxs⟩ : ∃ xs, mkp 64 f = xs := ⟨_, rfl⟩
  have hro := fun w => rowOf_any f w hfH.out.on
  have hval := Lib.hid (fun (k : Nat) (v : Value) (w : World) (hk : k < P) (h : IsRow w v (mkp 64 f)) => value_any v (mkp 64 f) P k w hp h (fun i => mkp_By hfH.out 64 i) (by omega) (by omega))
  have hroH := Lib.hid hro
  have hev : Hid (∀ k : Nat, k < P → h k = decide (ev (P : Int) (k : Int) (mkp 64 f) = 0)) := fun k _ => hhk k
  clear hG hp hx hhk hxs hro hbH hPH hhH
  cases z
  · go_wp2_with ((with_reducible refine wpl_guard ?_); first | (refine wpl_load_arr rfl 25 _ rfl _ rfl _ _ hA _ _ uPoly sPoly ?_) | (refine wpl_build_zero rfl 25 64 5 rfl _ uPoly sByte zPoly ?_) | (refine wpl_eql_arr rfl 25 _ _ _ rfl 64 .u8 (f) (fun _ => 0) 5 rfl rfl uPoly uByte sByte gPoly _ (mkp_zero_dec f hzH.out) ?_))
    have hown0 := Lib.hid (show OwnI u0 (w.heap.size + 1) (.slice none 0 0) (rootsL h 0) from OwnI.nil _ _)
    go_loopw [7, 20] (fun v i wr => ∃ k : Nat, k ≤ P ∧ i = .int .i64 k ∧ Hid (OwnI wr (w.heap.size + 1) v (rootsL h k)) ∧ Blk wr w.heap.size (u8s 64 f) 25 ∧ Below w.heap.size w wr) (fun v i _ => P - (intOf i).toNat)
    case atStart => exact ⟨0, by omega, rfl, hown0, hA, hb⟩
    case round =>
      clear hA hb hown0
      obtain ⟨k, hk, rfl, hown, hA, hb⟩ := hrel
      by_cases hlt : k < P
      · have hlt2 : (k : Int) < (P : Int) := by omega
        obtain ⟨r, hr⟩ : ∃ r, h k = r := ⟨_, rfl⟩
        have hrk := hev.out k hlt
        have hpk := fun v w => hval.out k v w hlt
        obtain ⟨y, hy⟩ : ∃ y, ev (P : Int) (k : Int) (mkp 64 f) = y := ⟨_, rfl⟩
        rw [hr, hy] at hrk
        rw [hy] at hpk
        have hpkH := Lib.hid hpk
        have hyb : (y == 0) = r := by rw [hrk]; by_cases e : y = 0 <;> simp [e]
        have hrH := Lib.hid hr
        clear hrk hr hpk hy
        go_wp2_with ((with_reducible refine wpl_guard ?_); first | (refine wpl_load_arr rfl 25 _ rfl _ rfl _ _ hA _ _ uPoly sPoly ?_))
        refine (hroH.out _).mono ?_
        rintro e u5 ⟨v5, rfl, hr5, hn⟩
        have kr := Lib.hid hr5
        replace hA := hA.keep hn
        replace hown := Lib.hid (hown.out.below hn)
        replace hb := below_step hb hn
        clear hn hr5
        go_wp2_with fail
        refine (hpkH.out _ _ kr.out).mono ?_
        rintro e u6 ⟨rfl, rfl⟩
        cases r
        · go_wp2_with fail
          go_roundw
          case rel => exact ⟨k + 1, by omega, by go_num, by rw [rootsL_no hrH.out]; exact hown, hA, hb⟩
          case measure => simp [intOf] <;> omega
        · have hown2 := Lib.hid (World.ownsRow.alloc hown.out (.cells #[.int .i64 (k : Int)] 2))
          have hlen := rootsL_len h k
          have hszb := hb.size
          go_wp2_with (at_builtin; refine wpl_append_one rfl _ _ 36 rfl (w.heap.size + 1) 2 (.int .i64 0) 1 8 Try.underlying36 iInt rfl (by decide) (by decide) _ (rootsL h k).length _ rfl hown2.out u5.heap.size rfl [.int .i64 (k : Int)] rfl (one_new _ _ _) (by intro u hu; rw [List.mem_singleton] at hu; subst hu; rfl) (by omega) (by simp; omega) ?_; intro v' w2 hown3 hb2; have hown4 := Lib.hid (OwnI.snoc hown3); clear hown3)
          replace hA := (hA.alloc (.cells #[.int .i64 (k : Int)] 2)).below hb2 (by omega)
          replace hb := (hb.alloc (by have := hA.lt; omega) (.cells #[.int .i64 (k : Int)] 2)).trans (hb2.mono (by omega))
          clear hb2 hown2 hown
          go_wp2_with fail
          go_roundw
          case rel => exact ⟨k + 1, by omega, by go_num, by rw [rootsL_yes hrH.out]; exact hown4, hA, hb⟩
          case measure => simp [intOf] <;> omega
      · obtain rfl : k = P := by omega
        go_wp2_with fail
        go_ret2
        exact ⟨_, rfl, owns_mono hown.out (by omega), hb⟩
  · go_wp2_with ((with_reducible refine wpl_guard ?_); first | (refine wpl_load_arr rfl 25 _ rfl _ rfl _ _ hA _ _ uPoly sPoly ?_) | (refine wpl_build_zero rfl 25 64 5 rfl _ uPoly sByte zPoly ?_) | (refine wpl_eql_arr rfl 25 _ _ _ rfl 64 .u8 (f) (fun _ => 0) 5 rfl rfl uPoly uByte sByte gPoly _ (mkp_zero_dec f hzH.out) ?_))
    go_ret2
    exact ⟨_, rfl, OwnI.nil _ _, hb⟩

theorem RootsOf_pair (p : Int) (f : Nat → Int) (_ : (Lit.int .i64 p).wf = true) (hf : By f) : ∃ (r0 : List Int) (r1 : Int), r0.length ≤ 7 ∧
    (∀ w, Calls Try.prog 14 #[.int .i64 p, .agg (u8s 64 f)] w (roPost r0 r1 w)) ∧
    (∀ w, Calls Try.prog 13 #[.int .i64 p, .agg (u8s 64 f)] w (roPost r0 r1 w)) := by
  obtain ⟨b, hb⟩ := dec_true (Good p [f])
  obtain ⟨h, hh⟩ : ∃ h : Nat → Bool, ∀ k : Nat, h k = decide (ev p k (mkp 64 f) = 0) := ⟨_, fun k => rfl⟩
  refine ⟨roA b (decide ((mkp 64 f).length = 0)) (rootsL h p.toNat), _, ?_, fun w => specRootsOf_any f p p.toNat b _ h w hf hb rfl (fun hp => by have := hp.pos; omega) hh, fun w => implRootsOf_any f p p.toNat b _ h w hf hb rfl (fun hp => by have := hp.pos; omega) hh⟩
  unfold roA
  cases b
  · simp
  · have := rootsL_len h p.toNat
    have hp := (hb.2 rfl).1.pos
    split
    · split
      · simp
      · omega
    · simp
end Go.Proofs.Ytddgbnkojdmekaa
