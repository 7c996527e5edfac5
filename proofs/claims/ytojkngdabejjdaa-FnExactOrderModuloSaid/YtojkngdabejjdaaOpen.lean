/- Arguments of byte arrays, opened: arrays of bytes, arrays of those, structs of two of them. -/
import Derived.OpenShut
import Derived.ProofKit
import Derived.Test.YtojkngdabejjdaaBase
set_option linter.unusedVariables false
set_option linter.unusedSimpArgs false
namespace Go.Proofs.Ytojkngdabejjdaa
open Go.RowKit

section
variable {H : Type} {enc : TypeId × Value → H} {P : Program} {w : World} {base : Nat} {spare : Nat → Bool} {held : Bool} {fuel : Nat} {t : TypeId} {cs : List Value} {x : DataW H × List MemPlace}

/-- All cells are bytes. -/
def BytesL (cs : List Value) : Prop := ∀ v ∈ cs, ∃ z : Int, v = .int .u8 z ∧ 0 ≤ z ∧ z ≤ 255

theorem trod_byte {e : TypeId} (he : P.underlying e = some (.int .u8)) (h : DataW.trod enc P w base spare held fuel e cs = some x) : BytesL cs ∧ x.2 = [] := by
  obtain ⟨n, rfl, rfl, hw⟩ := DataW.trod_int he h
  refine ⟨fun v hv => ?_, rfl⟩
  rw [List.mem_singleton] at hv
  have := bounds_u8 hw
  exact ⟨n, hv, by omega, by omega⟩

/-- An array whose elements are of bytes. -/
theorem trod_rows {e : TypeId} {n m : Nat} (ht : P.underlying t = some (.array n e)) (hce : P.cellsOf e = m) (hct : P.cellsOf t = n * m) (hm : 0 < m)
    (hel : ∀ (k : Nat) (ds : List Value) (y : DataW H × List MemPlace), DataW.trod enc P w base spare held k e ds = some y → BytesL ds ∧ y.2 = [])
    (h : DataW.trod enc P w base spare held fuel t cs = some x) : BytesL cs ∧ x.2 = [] := by
  obtain ⟨xs, k, _, rfl, hl, hxl, hi⟩ := DataW.trod_array ht h
  rw [hce] at hi
  rw [hct] at hl
  have hget : ∀ i, i < n → ∃ y, xs[i]? = some y ∧ BytesL ((cs.drop (i * m)).take m) ∧ y.2 = [] := by
    intro i hin
    have h1 := hi i hin
    have h2 : xs[i]? = some (xs[i]'(by omega)) := List.getElem?_eq_getElem (by omega)
    rw [h2] at h1
    obtain ⟨h3, h4⟩ := hel _ _ _ h1
    exact ⟨_, h2, h3, h4⟩
  constructor
  · intro v hv
    obtain ⟨q, hq, rfl⟩ := List.mem_iff_getElem.1 hv
    have hqn : q / m < n := by
      rw [Nat.div_lt_iff_lt_mul hm]; omega
    obtain ⟨y, _, h3, _⟩ := hget (q / m) hqn
    refine h3 _ ?_
    rw [List.mem_iff_getElem?]
    refine ⟨q % m, ?_⟩
    rw [List.getElem?_take, if_pos (Nat.mod_lt _ hm), List.getElem?_drop, Nat.mul_comm, Nat.div_add_mod, List.getElem?_eq_getElem hq]
  · show xs.flatMap (·.2) = []
    rw [List.flatMap_eq_nil_iff]
    intro y hy
    obtain ⟨q, hq, rfl⟩ := List.mem_iff_getElem.1 hy
    obtain ⟨z, h2, _, h4⟩ := hget q (by omega)
    rw [List.getElem?_eq_getElem hq] at h2
    obtain rfl := Option.some.inj h2
    exact h4

theorem trod_bytes {e : TypeId} {n : Nat} (ht : P.underlying t = some (.array n e)) (he : P.underlying e = some (.int .u8)) (hce : P.cellsOf e = 1) (hct : P.cellsOf t = n)
    (h : DataW.trod enc P w base spare held fuel t cs = some x) : BytesL cs ∧ x.2 = [] :=
  trod_rows ht hce (by omega) (by omega) (fun _ _ _ hk => trod_byte he hk) h

/-- Told by a function. -/
theorem bytes_u8s {cs : Array Value} {n : Nat} (hs : cs.size = n) (h : BytesL cs.toList) : ∃ f : Nat → Int, cs = u8s n f ∧ ∀ i, 0 ≤ f i ∧ f i ≤ 255 := by
  have hx : ∀ i, ∃ z : Int, 0 ≤ z ∧ z ≤ 255 ∧ (i < n → cs[i]? = some (.int .u8 z)) := by
    intro i
    by_cases hi : i < n
    · have hi' : i < cs.size := by omega
      obtain ⟨z, hz, h0, h1⟩ := h cs[i] (by simp)
      exact ⟨z, h0, h1, fun _ => by rw [Array.getElem?_eq_getElem hi', hz]⟩
    · exact ⟨0, by omega, by omega, fun hh => absurd hh hi⟩
  refine ⟨fun i => Classical.choose (hx i), eq_arr hs fun i hi => (Classical.choose_spec (hx i)).2.2 hi, fun i => ⟨(Classical.choose_spec (hx i)).1, (Classical.choose_spec (hx i)).2.1⟩⟩

theorem okWide_array {r : Reach} {b0 n e : Nat} {t : TypeId} {v : Value} (ht : P.underlying t = some (.array n e)) (h : Value.okWide P w r b0 t v) : ∃ cs, v = .agg cs ∧ cs.size = P.cellsOf t := by
  simp only [Value.okWide, ht] at h
  obtain ⟨cs, h1, h2, _⟩ := h
  exact ⟨cs, h1, h2⟩

/-- An argument of a byte array's type. -/
theorem open_bytes {r : Reach} {b0 n e : Nat} {t : TypeId} {v : Value} {d : DataW H} {p : List MemPlace} (ht : P.underlying t = some (.array n e)) (he : P.underlying e = some (.int .u8)) (hce : P.cellsOf e = 1) (hct : P.cellsOf t = n)
    (hv : Value.okWide P w r b0 t v) (h : DataW.Trod enc P w base spare held t v d p) : ∃ f : Nat → Int, v = .agg (u8s n f) ∧ (∀ i, 0 ≤ f i ∧ f i ≤ 255) ∧ p = [] := by
  obtain ⟨cs, rfl, hsz⟩ := okWide_array ht hv
  obtain ⟨fuel, hf⟩ := h
  obtain ⟨h1, h2⟩ := trod_bytes ht he hce hct (by simpa [Value.cells] using hf)
  obtain ⟨f, rfl, hb⟩ := bytes_u8s (hsz.trans hct) h1
  exact ⟨f, rfl, hb, h2⟩

/-- An argument of an array of byte arrays. -/
theorem open_bytes2 {r : Reach} {b0 n e m e' : Nat} {t : TypeId} {v : Value} {d : DataW H} {p : List MemPlace} (ht : P.underlying t = some (.array n e)) (he : P.underlying e = some (.array m e')) (he' : P.underlying e' = some (.int .u8)) (hce' : P.cellsOf e' = 1)
    (hce : P.cellsOf e = m) (hct : P.cellsOf t = n * m) (hm : 0 < m)
    (hv : Value.okWide P w r b0 t v) (h : DataW.Trod enc P w base spare held t v d p) : ∃ f : Nat → Int, v = .agg (u8s (n * m) f) ∧ (∀ i, 0 ≤ f i ∧ f i ≤ 255) ∧ p = [] := by
  obtain ⟨cs, rfl, hsz⟩ := okWide_array ht hv
  obtain ⟨fuel, hf⟩ := h
  obtain ⟨h1, h2⟩ := trod_rows ht hce hct hm (fun _ _ _ hk => trod_bytes he he' hce' hce hk) (by simpa [Value.cells] using hf)
  obtain ⟨f, rfl, hb⟩ := bytes_u8s (hsz.trans hct) h1
  exact ⟨f, rfl, hb, h2⟩

theorem below_trod {t : TypeId} (hl : laidOutB P = true) (hr : P.readableRec t = true) (hrow : t < P.types.size) {W W' : World} {v : Value} {d : DataW H}
    (h : DataW.Trod enc P W 0 (fun _ => true) true t v d []) (hb : Below W.heap.size W W') :
    DataW.Trod enc P W' 0 (fun b => decide (b < W.heap.size)) true t v d [] := Below.trod hl hr hrow h hb (fun x hx => by cases hx)
end
end Go.Proofs.Ytojkngdabejjdaa
