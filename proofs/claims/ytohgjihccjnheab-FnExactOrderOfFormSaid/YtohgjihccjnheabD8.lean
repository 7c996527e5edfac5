/- Walks: InverseForm. -/
import Derived.Test.YtohgjihccjnheabD7
set_option linter.unusedVariables false
set_option linter.unusedSimpArgs false
namespace Go.Proofs.Ytohgjihccjnheab
open Go.RowKit

theorem OkP_congr {p : Int} {f f' : Nat → Int} (h : ∀ i, i < 64 → f i = f' i) : OkP p f ↔ OkP p f' :=
  ⟨fun ⟨a, b⟩ => ⟨fun i hi => by rw [← h i hi]; exact a i hi, b⟩, fun ⟨a, b⟩ => ⟨fun i hi => by rw [h i hi]; exact a i hi, b⟩⟩
theorem mkp_congr {f f' : Nat → Int} (h : ∀ i, i < 64 → f i = f' i) : mkp 64 f = mkp 64 f' := mkp_ext fun i => by split <;> simp_all
theorem FormOk_congr {p : Int} {ds : List Int} {f f' g g' : Nat → Int} (h : ∀ i, i < 64 → f i = f' i) (h2 : ∀ i, i < 64 → g i = g' i) : FormOk p ds f g ↔ FormOk p ds f' g' := by
  unfold FormOk; rw [OkP_congr h, OkP_congr h2, mkp_congr h, mkp_congr h2]
/-- The forms of a list, read back. -/
theorem fA_lit (fs : List ((Nat → Int) × (Nat → Int))) (k : Nat) (hk : k < fs.length) (i : Nat) (hi : i < 64) : fA (formsF (fs.map fun x => fmF x.1 x.2)) k i = (fs[k]).1 i := by
  unfold fA formsF
  rw [show (k * 128 + i) / 128 = k by omega, show (k * 128 + i) % 128 = i by omega, List.getD_eq_getElem?_getD, List.getElem?_map, List.getElem?_eq_getElem hk]
  show fmF _ _ i = _
  unfold fmF; rw [if_pos hi]
theorem fB_lit (fs : List ((Nat → Int) × (Nat → Int))) (k : Nat) (hk : k < fs.length) (i : Nat) (hi : i < 64) : fB (formsF (fs.map fun x => fmF x.1 x.2)) k i = (fs[k]).2 i := by
  unfold fB formsF
  rw [show (k * 128 + (64 + i)) / 128 = k by omega, show (k * 128 + (64 + i)) % 128 = 64 + i by omega, List.getD_eq_getElem?_getD, List.getElem?_map, List.getElem?_eq_getElem hk]
  show fmF _ _ (64 + i) = _
  unfold fmF; rw [if_neg (by omega), Nat.add_sub_cancel_left]
/-- What the checks of a list come to. -/
theorem frmT_lit (p : Int) (d : Nat → Int) (fs : List ((Nat → Int) × (Nat → Int))) (hd : By d) (hf : ∀ x ∈ fs, By x.1 ∧ By x.2) :
    ∃ b1 bf br T1 T2, FrmT p d (formsF (fs.map fun x => fmF x.1 x.2)) fs.length b1 bf br T1 T2 ∧ (bf = true → ∀ x ∈ fs, FormOk p (mkp 64 d) x.1 x.2) ∧ (br = true → ∀ x ∈ fs, ((mkp 64 x.1).length : Int) - 1 ≤ gns (mkp 64 d)) := by
  obtain ⟨b1, h1⟩ := dec_true (Disc p d)
  obtain ⟨T1, t1⟩ := dec_fun (fun k => FormOk p (mkp 64 d) (fA (formsF (fs.map fun x => fmF x.1 x.2)) k) (fB (formsF (fs.map fun x => fmF x.1 x.2)) k))
  let T2 : Nat → Bool := fun k => decide (((mkp 64 (fA (formsF (fs.map fun x => fmF x.1 x.2)) k)).length : Int) - 1 ≤ gns (mkp 64 d))
  obtain ⟨bf, a1⟩ := dec_all fs.length T1
  obtain ⟨br, a2⟩ := dec_all fs.length T2
  refine ⟨b1, bf, br, T1, T2, ⟨hd, ?_, h1, fun k _ => t1 k, fun k _ => rfl, a1, a2⟩, fun hb x hx => ?_, fun hb x hx => ?_⟩
  · refine fun i => formsF_in _ (fun f hfm => ?_) i
    obtain ⟨x, hx, rfl⟩ := List.mem_map.1 hfm
    exact fun j => formsF_in1 x.1 x.2 [] (hf x hx).1 (hf x hx).2 j
  · obtain ⟨k, hk, rfl⟩ := List.mem_iff_getElem.1 hx
    exact (FormOk_congr (fA_lit fs k hk) (fB_lit fs k hk)).1 ((t1 k).2 (a1.2 hb k hk))
  · obtain ⟨k, hk, rfl⟩ := List.mem_iff_getElem.1 hx
    have := of_decide_eq_true (a2.2 hb k hk)
    rwa [mkp_congr (fA_lit fs k hk)] at this
theorem codeF_no1 (bf r m br : Bool) : codeF false bf r m br = 1 := rfl
theorem codeF_no2 (r m br : Bool) : codeF true false r m br = 1 := rfl
theorem codeF_ok (br : Bool) : codeF true true true false br = 0 := rfl
theorem codeF_red : codeF true true true true false = 5 := rfl
theorem codeF_ok2 : codeF true true true true true = 0 := rfl

def invF (b1 bf : Bool) (p : Int) (f g : Nat → Int) : Nat → Int := if b1 && bf then fmF f (cf (opp p (mkp 64 f) (mkp 64 g))) else fun _ => 0
theorem u8s_fm_mkp (f h : Nat → Int) : u8s 128 (fmF (cf (mkp 64 f)) h) = u8s 128 (fmF f h) := u8s_ext fun j _ => by
  unfold fmF
  by_cases e : j < 64
  · rw [if_pos e, if_pos e, mkp_cf, if_pos e]
  · rw [if_neg e, if_neg e]

end Go.Proofs.Ytohgjihccjnheab
