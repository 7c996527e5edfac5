/- Walks: the codes for lists of polynomials. -/
import Derived.Test.YthkkicanockhgaaW3
import Derived.Test.YthkkicanockhgaaBuild
namespace Go.Proofs.Ythkkicanockhgaa
open Go.RowKit

/-- n cells from an address on (nothing is said of no cells). -/
def CellsAt (w : World) (oa : Option Addr) (n : Nat) (f : Nat → Value) : Prop :=
  0 < n → ∃ g o, oa = some ⟨g, o, none⟩ ∧ ∀ j, j < n → w.cell? ⟨g, o + j, none⟩ = some (f j)
theorem CellsAt.below {w w' : World} {oa : Option Addr} {n : Nat} {f : Nat → Value} (h : CellsAt w oa n f) (hb : Below w.heap.size w w') : CellsAt w' oa n f := fun hn => by
  obtain ⟨g, o, h1, h2⟩ := h hn
  refine ⟨g, o, h1, fun j hj => ?_⟩
  rw [hb.cell (block_lt_of_cell (h2 j hj))]
  exact h2 j hj
theorem CellsAt.ext {w : World} {oa : Option Addr} {n : Nat} {f g : Nat → Value} (h : CellsAt w oa n f) (e : ∀ i, i < n → f i = g i) : CellsAt w oa n g := fun hn => by
  obtain ⟨b, o, h1, h2⟩ := h hn
  exact ⟨b, o, h1, fun j hj => by rw [← e j hj]; exact h2 j hj⟩
theorem cell_below {w w' : World} {x : Addr} {v : Value} (h : w.cell? x = some v) (hb : Below w.heap.size w w') : w'.cell? x = some v := by
  rw [hb.cell (block_lt_of_cell h)]; exact h
theorem CellsAt.blk {w : World} {g : Nat} {n : Nat} {f : Nat → Value} {T : TypeId} (h : Blk w g (arr n f) T) : CellsAt w (some ⟨g, 0, none⟩) n f := fun _ =>
  ⟨g, 0, rfl, fun j hj => by rw [h.cell, Nat.zero_add, arr_get_lt _ hj]⟩

/-- All cells of n polynomials are numbers modulo p. -/
def AllP (n : Nat) (F : Nat → Int) (p : Int) : Prop := ∀ j, j < n * 64 → F j < p
theorem AllP_iff (n : Nat) (F : Nat → Int) (p : Int) : AllP n F p ↔ ∀ i, i < n → ∀ q, q < 64 → F (i * 64 + q) < p := by
  constructor
  · intro h i hi q hq; exact h _ (by omega)
  · intro h j hj
    have := h (j / 64) (by omega) (j % 64) (by omega)
    rwa [show j / 64 * 64 + j % 64 = j by omega] at this

def polysCodeF (bp : Nat) : Value := .func (.func 82) #[] #[.pointer (some ⟨bp, 0, none⟩)]
def areAllPF (bf : Nat) : Value := .func (.func 103) #[] #[.pointer (some ⟨bf, 0, none⟩)]

set_option maxHeartbeats 400000 in
theorem polysCode1_any (f : Nat → Int) (p : Int) (bp : Nat) (w : World) (hf : ∀ i, i < 64 → 0 ≤ f i ∧ f i ≤ 255) (hc : w.cell? ⟨bp, 0, none⟩ = some (.int .i64 p)) (b : Bool) (hb : decide (∀ i : Nat, i < 64 → f i < p) = b) :
    Calls Try.prog 82 #[.agg (u8s 64 f), .pointer (some ⟨bp, 0, none⟩)] w fun e w' => e = .returned (.bool b) ∧ Below w.heap.size w w' := by
  have hfH := Lib.hid hf; clear hf
  have hbH := Lib.hid hb; clear hb
  have hlt : bp < w.heap.size := block_lt_of_cell hc
  go_enter Try.func82, Try.ntmps82
  go_wp2_with (first | (refine wpl_load_arr rfl 23 _ rfl _ rfl _ _ (Blk.new w _ _) _ _ uPoly sPoly ?_) | (go_at_call 83; refine (isPoly_any f p _ hfH.out b hbH.out).mono ?_; rintro e w' ⟨rfl, hb1⟩))
  go_ret
  exact ⟨rfl, below_step (below_new _ _) hb1⟩

set_option maxHeartbeats 400000 in
theorem areAllP1_any (f : Nat → Int) (p : Int) (bp bf : Nat) (w : World) (hf : ∀ i, i < 64 → 0 ≤ f i ∧ f i ≤ 255) (hc : w.cell? ⟨bp, 0, none⟩ = some (.int .i64 p)) (hfc : w.cell? ⟨bf, 0, none⟩ = some (polysCodeF bp)) (b : Bool) (hb : decide (∀ i : Nat, i < 64 → f i < p) = b) :
    Calls Try.prog 103 #[.agg (u8s 64 f), .pointer (some ⟨bf, 0, none⟩)] w fun e w' => e = .returned (.bool (!b)) ∧ Below w.heap.size w w' := by
  have hc2 : (w.alloc (.cells (u8s 64 f) 23)).cell? ⟨bp, 0, none⟩ = some (.int .i64 p) := by
    rw [World.cell?_alloc_past _ _ _ (block_lt_of_cell hc)]; exact hc
  have h1 := polysCode1_any f p bp (w.alloc (.cells (u8s 64 f) 23)) hf hc2 b hb
  have H1 := Lib.hid h1; clear h1 hf hb hc2
  have hlt : bf < w.heap.size := block_lt_of_cell hfc
  unfold polysCodeF at hfc
  go_enter Try.func103, Try.ntmps103
  go_wp2_with (first | (refine wpl_load_arr rfl 23 _ rfl _ rfl _ _ (Blk.new w _ _) _ _ uPoly sPoly ?_) | (go_at_call 82; refine H1.out.mono ?_; rintro e w' ⟨rfl, hb1⟩))
  go_ret
  exact ⟨rfl, below_step (below_new _ _) hb1⟩

def IdxPostB (good : Prop) (w : World) (e : Ending) (w' : World) : Prop := ∃ r : Int, e = .returned (.int .i64 r) ∧ (good → r = -1) ∧ (¬ good → 0 ≤ r) ∧ Below w.heap.size w w'

set_option maxHeartbeats 400000 in
theorem indexFuncP_any (F : Nat → Int) (n cap : Nat) (oa : Option Addr) (p : Int) (bp bf : Nat) (w : World) (hF : ∀ j, j < n * 64 → 0 ≤ F j ∧ F j ≤ 255) (hn : n ≤ 1000000000)
    (hC : CellsAt w oa (n * 64) (fun j => .int .u8 (F j))) (hc : w.cell? ⟨bp, 0, none⟩ = some (.int .i64 p)) (hfc : w.cell? ⟨bf, 0, none⟩ = some (polysCodeF bp)) :
    Calls Try.prog 108 #[.slice oa n cap, areAllPF bf] w (IdxPostB (AllP n F p) w) := by
  have hcH := Lib.hid hc
  have hfcH := Lib.hid hfc
  have hFH := Lib.hid hF
  have hCH := Lib.hid hC
  clear hfc hF hc hC
  unfold areAllPF
  go_enter Try.func108, Try.ntmps108
  go_wp2
  go_loopw [8] (fun i wr => ∃ k : Nat, k ≤ n ∧ i = .int .i64 k ∧ (∀ j, j < k → ∀ q, q < 64 → F (j * 64 + q) < p) ∧ Below w.heap.size w wr) (fun i _ => n - (intOf i).toNat)
  case atStart => exact ⟨0, by omega, rfl, fun j hj => by omega, Below.refl _ _⟩
  case round =>
    obtain ⟨k, hk, rfl, hall, hb⟩ := hrel
    have hallH := Lib.hid hall; clear hall
    by_cases hlt : k < n
    · obtain ⟨g, o, rfl, hcell⟩ := hCH.out (by omega)
      have hcellr : ∀ q, q < 64 → wr.cell? ⟨g, o + k * 64 + q, none⟩ = some (.int .u8 (F (k * 64 + q))) := fun q hq => by
        have := cell_below (hcell (k * 64 + q) (by omega)) hb
        rwa [← Nat.add_assoc] at this
      have hcr := cell_below hcH.out hb
      have hfr := cell_below hfcH.out hb
      have hFk : ∀ i, i < 64 → 0 ≤ F (k * 64 + i) ∧ F (k * 64 + i) ≤ 255 := fun i hi => hFH.out _ (by omega)
      obtain ⟨b, hbb⟩ : ∃ b, decide (∀ i : Nat, i < 64 → F (k * 64 + i) < p) = b := ⟨_, rfl⟩
      have h1 := areAllP1_any (fun q => F (k * 64 + q)) p bp bf wr hFk hcr hfr b hbb
      have H1 := Lib.hid h1
      have hcellH := Lib.hid hcellr
      have hbbH := Lib.hid hbb
      have hltH := hlt
      clear h1 hcellr hcell hcr hfr hFk hbb
      cases b
      · go_wp2_with (first | (refine wpl_load_mid rfl 23 _ rfl g (o + k * 64) rfl 64 _ _ hcellH.out uPoly sPoly ?_) | (go_at_call 103; refine H1.out.mono ?_; rintro e w' ⟨rfl, hb1⟩))
        go_ret
        refine ⟨k, rfl, fun hg => ?_, fun _ => by omega, hb.trans (hb1.mono hb.size)⟩
        have := (AllP_iff n F p).1 hg k hltH
        rw [decide_eq_true this] at hbbH; exact absurd hbbH.out (by simp)
      · go_wp2_with (first | (refine wpl_load_mid rfl 23 _ rfl g (o + k * 64) rfl 64 _ _ hcellH.out uPoly sPoly ?_) | (go_at_call 103; refine H1.out.mono ?_; rintro e w' ⟨rfl, hb1⟩))
        go_roundw
        case rel =>
          refine ⟨k + 1, by omega, by go_num, fun j hj => ?_, hb.trans (hb1.mono hb.size)⟩
          by_cases e1 : j = k
          · subst e1; exact of_decide_eq_true hbbH.out
          · exact hallH.out j (by omega)
        case measure => simp [intOf]; omega
    · obtain rfl : k = n := by omega
      go_wp2_with fail
      go_ret
      exact ⟨-1, rfl, fun _ => rfl, fun hg => absurd ((AllP_iff _ _ _).2 hallH.out) hg, hb⟩

theorem containsFuncP_any (F : Nat → Int) (n cap : Nat) (oa : Option Addr) (p : Int) (bp bf : Nat) (w : World) (hF : ∀ j, j < n * 64 → 0 ≤ F j ∧ F j ≤ 255) (hn : n ≤ 1000000000)
    (hC : CellsAt w oa (n * 64) (fun j => .int .u8 (F j))) (hc : w.cell? ⟨bp, 0, none⟩ = some (.int .i64 p)) (hfc : w.cell? ⟨bf, 0, none⟩ = some (polysCodeF bp)) (b : Bool) (hb : AllP n F p ↔ b = true) :
    Calls Try.prog 102 #[.slice oa n cap, areAllPF bf] w fun e w' => e = .returned (.bool (!b)) ∧ Below w.heap.size w w' := by
  have h1 := indexFuncP_any F n cap oa p bp bf w hF hn hC hc hfc
  have h1 : Calls Try.prog 108 #[.slice oa n cap, areAllPF bf] w fun e w' => ∃ r : Int, e = .returned (.int .i64 r) ∧ decide (0 ≤ r) = !b ∧ Below w.heap.size w w' := by
    refine h1.mono ?_
    rintro e w' ⟨r, rfl, h2, h3, h4⟩
    refine ⟨r, rfl, ?_, h4⟩
    cases b
    · have := h3 (fun h => by simpa using hb.1 h); simp; omega
    · have := h2 (hb.2 rfl); simp; omega
  have H1 := Lib.hid h1; clear h1 hF hC hc hfc hb
  unfold areAllPF at *
  go_enter Try.func102, Try.ntmps102
  go_wp2_with (go_at_call 108; refine H1.out.mono ?_; rintro e w' ⟨r, rfl, hr, hb1⟩)
  go_ret
  exact ⟨by simp, hb1⟩

set_option maxHeartbeats 400000 in
theorem areAllP_any (F : Nat → Int) (n cap : Nat) (oa : Option Addr) (p : Int) (bp : Nat) (w : World) (hF : ∀ j, j < n * 64 → 0 ≤ F j ∧ F j ≤ 255) (hn : n ≤ 1000000000)
    (hC : CellsAt w oa (n * 64) (fun j => .int .u8 (F j))) (hc : w.cell? ⟨bp, 0, none⟩ = some (.int .i64 p)) (b : Bool) (hb : AllP n F p ↔ b = true) :
    Calls Try.prog 81 #[.slice oa n cap, polysCodeF bp] w fun e w' => e = .returned (.bool b) ∧ Below w.heap.size w w' := by
  have hb0 := below_new w (.cells #[polysCodeF bp] 86)
  have hf2 : (w.alloc (.cells #[polysCodeF bp] 86)).cell? ⟨w.heap.size, 0, none⟩ = some (polysCodeF bp) := by
    rw [World.cell?_alloc_at _ _ _ _ rfl]; rfl
  have h1 := containsFuncP_any F n cap oa p bp w.heap.size _ hF hn (hC.below hb0) (cell_below hc hb0) hf2 b hb
  have H1 := Lib.hid h1; clear h1 hF hC hc hb hf2
  unfold polysCodeF at *
  go_enter Try.func81, Try.ntmps81
  go_wp2_with (go_at_call 102; refine H1.out.mono ?_; rintro e w' ⟨rfl, hb1⟩)
  go_ret
  exact ⟨by simp, below_step hb0 hb1⟩

/-- The code of a list of polynomials: 0 if all is well, 1 (ErrInvalid) otherwise. -/
def codeOf (b : Bool) : Int := if b then 0 else 1

set_option maxHeartbeats 400000 in
theorem polysCode_any (F : Nat → Int) (n cap : Nat) (oa : Option Addr) (p : Int) (w : World) (hF : ∀ j, j < n * 64 → 0 ≤ F j ∧ F j ≤ 255) (hn : n ≤ 1000000000)
    (hC : CellsAt w oa (n * 64) (fun j => .int .u8 (F j))) (b : Bool) (hb : (Pr p ∧ AllP n F p) ↔ b = true) :
    Calls Try.prog 46 #[.int .i64 p, .slice oa n cap] w fun e w' => e = .returned (.int .i64 (codeOf b)) ∧ Below w.heap.size w w' := by
  have hb0 := below_new w (.cells #[.int .i64 p] 2)
  have hc2 : (w.alloc (.cells #[.int .i64 p] 2)).cell? ⟨w.heap.size, 0, none⟩ = some (.int .i64 p) := by
    rw [World.cell?_alloc_at _ _ _ _ rfl]; rfl
  by_cases hp : Pr p
  · have hpd : decide (Pr p) = true := by simpa using hp
    have h2 : AllP n F p ↔ b = true := by rw [← hb]; simp [hp]
    have h1 := areAllP_any F n cap oa p w.heap.size _ hF hn (hC.below hb0) hc2 b h2
    have H1 := Lib.hid h1
    have hpH := Lib.hid hpd
    clear h1 hF hC hb h2 hpd
    unfold polysCodeF at H1
    cases b
    · go_enter Try.func46, Try.ntmps46
      go_wp2_with (first | (go_at_call 80; refine (isPrime_any p _ true hpH.out).mono ?_; rintro e w' ⟨rfl, rfl⟩) | (go_at_call 81; refine H1.out.mono ?_; rintro e w' ⟨rfl, hb1⟩))
      go_ret
      exact ⟨rfl, below_step hb0 hb1⟩
    · go_enter Try.func46, Try.ntmps46
      go_wp2_with (first | (go_at_call 80; refine (isPrime_any p _ true hpH.out).mono ?_; rintro e w' ⟨rfl, rfl⟩) | (go_at_call 81; refine H1.out.mono ?_; rintro e w' ⟨rfl, hb1⟩))
      go_ret
      exact ⟨rfl, below_step hb0 hb1⟩
  · have hpd : decide (Pr p) = false := by simpa using hp
    have h2 : b = false := by
      cases b
      · rfl
      · exact absurd (hb.2 rfl).1 hp
    subst h2
    have hpH := Lib.hid hpd
    clear hF hC hb hpd hc2
    go_enter Try.func46, Try.ntmps46
    go_wp2_with (first | (go_at_call 80; refine (isPrime_any p _ false hpH.out).mono ?_; rintro e w' ⟨rfl, rfl⟩))
    go_ret
    exact ⟨rfl, hb0⟩

set_option maxHeartbeats 400000 in
theorem l01Code_any (F : Nat → Int) (n cap : Nat) (oa : Option Addr) (p : Int) (w : World) (hF : ∀ j, j < n * 64 → 0 ≤ F j ∧ F j ≤ 255) (hn : n ≤ 1000000000)
    (hC : CellsAt w oa (n * 64) (fun j => .int .u8 (F j))) (b : Bool) (hb : (Pr p ∧ AllP n F p) ↔ b = true) :
    Calls Try.prog 44 #[.int .i64 p, .slice oa n cap] w fun e w' => e = .returned (.int .i64 (codeOf b)) ∧ Below w.heap.size w w' := by
  have hFH := Lib.hid hF
  have hCH := Lib.hid hC
  have hbH := Lib.hid hb
  clear hF hC hb
  by_cases hp : Pr p
  · have hpd : decide (Pr p) = true := by simpa using hp
    have hpH := Lib.hid hpd
    clear hpd
    go_enter Try.func44, Try.ntmps44
    go_wp2_with (go_at_call 78; refine (l01Prime_any p _ true hpH.out).mono ?_; rintro e w' ⟨rfl, rfl⟩)
    go_loopw [5] (fun i wr => ∃ k : Nat, k ≤ n ∧ i = .int .i64 k ∧ (∀ j, j < k → ∀ q, q < 64 → F (j * 64 + q) < p) ∧ Below w.heap.size w wr) (fun i _ => n - (intOf i).toNat)
    case atStart => exact ⟨0, by omega, rfl, fun j hj => by omega, Below.refl _ _⟩
    case round =>
      obtain ⟨k, hk, rfl, hall, hb⟩ := hrel
      have hallH := Lib.hid hall; clear hall
      by_cases hlt : k < n
      · obtain ⟨g, o, rfl, hcell⟩ := hCH.out (by omega)
        have hcellr : ∀ q, q < 64 → wr.cell? ⟨g, o + k * 64 + q, none⟩ = some (.int .u8 (F (k * 64 + q))) := fun q hq => by
          have := cell_below (hcell (k * 64 + q) (by omega)) hb
          rwa [← Nat.add_assoc] at this
        have hFk : ∀ i, i < 64 → 0 ≤ F (k * 64 + i) ∧ F (k * 64 + i) ≤ 255 := fun i hi => hFH.out _ (by omega)
        obtain ⟨c, hbb⟩ : ∃ c, decide ((∀ i : Nat, i < 64 → F (k * 64 + i) < p) ∧ Pr p) = c := ⟨_, rfl⟩
        have h1 := l01Is_any (fun q => F (k * 64 + q)) p wr hFk c hbb
        have H1 := Lib.hid h1
        have hcellH := Lib.hid hcellr
        have hbbH := Lib.hid hbb
        have hltH := hlt
        clear h1 hcellr hcell hFk hbb
        cases c
        · have hbf : b = false := by
            cases b
            · rfl
            · have h3 := hbH.out.2 rfl
              have h4 := of_decide_eq_false hbbH.out
              exact absurd ⟨(AllP_iff n F p).1 h3.2 k hlt, hp⟩ h4
          subst hbf
          go_wp2_with (first | (refine wpl_load_mid rfl 23 _ rfl g (o + k * 64) rfl 64 _ _ hcellH.out uPoly sPoly ?_) | (go_at_call 79; refine H1.out.mono ?_; rintro e w' ⟨rfl, hb1⟩))
          go_ret
          exact ⟨rfl, below_step hb hb1⟩
        · go_wp2_with (first | (refine wpl_load_mid rfl 23 _ rfl g (o + k * 64) rfl 64 _ _ hcellH.out uPoly sPoly ?_) | (go_at_call 79; refine H1.out.mono ?_; rintro e w' ⟨rfl, hb1⟩))
          go_roundw
          case rel =>
            refine ⟨k + 1, by omega, by go_num, fun j hj => ?_, below_step hb hb1⟩
            by_cases e1 : j = k
            · subst e1; exact (of_decide_eq_true hbbH.out).1
            · exact hallH.out j (by omega)
          case measure => simp [intOf]; omega
      · obtain rfl : k = n := by omega
        have hbt : b = true := hbH.out.1 ⟨hp, (AllP_iff _ _ _).2 hallH.out⟩
        subst hbt
        go_wp2_with fail
        go_ret
        exact ⟨rfl, hb⟩
  · have hpd : decide (Pr p) = false := by simpa using hp
    have h2 : b = false := by
      cases b
      · rfl
      · exact absurd (hbH.out.2 rfl).1 hp
    subst h2
    have hpH := Lib.hid hpd
    clear hpd
    go_enter Try.func44, Try.ntmps44
    go_wp2_with (first | (go_at_call 78; refine (l01Prime_any p _ false hpH.out).mono ?_; rintro e w' ⟨rfl, rfl⟩))
    go_ret
    exact ⟨rfl, Below.refl _ _⟩
end Go.Proofs.Ythkkicanockhgaa
