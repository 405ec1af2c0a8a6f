/- Arguments that came in: structs by their fields, texts. No program in sight. -/
import Derived.Test.YtchmcjimnliodaaMW6
import Derived.Deep.Strs
namespace Go.Proofs.Ytchmcjimnliodaa
open Go Go.RowKit Go.ChangeShapes Go.WideShapes Go.ChangeAt Go.Deep

section
variable {H : Type} {enc : TypeId × Value → H} {P : Program} {w : World} {base : Nat} {spare : Nat → Bool} {held : Bool}
theorem cutAt {α : Type} {cs : List α} {o n m : Nat} {a b : List α} (h1 : (cs.drop o).take n = a) (h2 : cs.drop m = b) (hm : m = o + n) : cs.drop o = a ++ b := by
  subst hm
  rw [← h1, ← h2, ← List.drop_drop, List.take_append_drop]
theorem fld {t : TypeId} {fs : Array Field} {fuel : Nat} {cs : List Value} {x : DataW H × List MemPlace} (ht : P.underlying t = some (.struct fs)) (h : DataW.trod enc P w base spare held fuel t cs = some x)
    {i o n : Nat} {f : Field} {ft : TypeId} (hf : fs[i]? = some f) (hft : f.type = ft) (ho : f.offset = o) (hn : P.cellsOf ft = n) : ∃ m y, DataW.trod enc P w base spare held m ft ((cs.drop o).take n) = some y := by
  obtain ⟨xs, m, _, _, hl, hlen, he⟩ := DataW.trod_struct ht h
  have hi : i < xs.length := by rw [hlen]; exact (Array.getElem?_eq_some_iff.1 hf).1
  subst hft
  subst ho
  subst hn
  exact ⟨m, xs[i], (he i f hf).trans (List.getElem?_eq_getElem hi)⟩
theorem len_of {t : TypeId} {fs : Array Field} {fuel : Nat} {cs : List Value} {x : DataW H × List MemPlace} (ht : P.underlying t = some (.struct fs)) (h : DataW.trod enc P w base spare held fuel t cs = some x) : cs.length = P.cellsOf t := by
  obtain ⟨xs, m, _, _, hl, _, _⟩ := DataW.trod_struct ht h
  exact hl
/-- A text. -/
theorem see_str {t : TypeId} {cs : List Value} (ht : P.underlying t = some .string) (h : ∃ m y, DataW.trod enc P w base spare held m t cs = some y) :
    ∃ s : List UInt8, cs = [.string ⟨⟨s⟩⟩] ∧ s.length ≤ maxLen := by
  obtain ⟨m, y, h⟩ := h
  obtain ⟨s, h1, _, h2⟩ := DataW.trod_string ht h
  exact ⟨s.data.toList, by rw [h1], h2⟩
theorem see_i64 {t : TypeId} {cs : List Value} (ht : P.underlying t = some (.int .i64)) (h : ∃ m y, DataW.trod enc P w base spare held m t cs = some y) :
    ∃ n : Int, cs = [.int .i64 n] ∧ -9223372036854775808 ≤ n ∧ n ≤ 9223372036854775807 := by
  obtain ⟨m, y, h⟩ := h
  obtain ⟨n, h1, _, h2⟩ := DataW.trod_int ht h
  exact ⟨n, h1, bounds_i64 h2⟩
theorem see_u64 {t : TypeId} {cs : List Value} (ht : P.underlying t = some (.int .u64)) (h : ∃ m y, DataW.trod enc P w base spare held m t cs = some y) :
    ∃ n : Nat, cs = [.int .u64 n] ∧ n < 18446744073709551616 := by
  obtain ⟨m, y, h⟩ := h
  obtain ⟨n, h1, _, h2⟩ := DataW.trod_int ht h
  have := bounds_u64 h2
  exact ⟨n.toNat, by rw [h1]; congr; omega, by omega⟩
theorem see_u8 {t : TypeId} {cs : List Value} (ht : P.underlying t = some (.int .u8)) (h : ∃ m y, DataW.trod enc P w base spare held m t cs = some y) :
    ∃ n : UInt8, cs = [.int .u8 n.toNat] := by
  obtain ⟨m, y, h⟩ := h
  obtain ⟨n, h1, _, h2⟩ := DataW.trod_int ht h
  have := bounds_u8 h2
  refine ⟨UInt8.ofNat n.toNat, ?_⟩
  rw [h1, UInt8.toNat_ofNat']
  congr
  omega
theorem see_bool {t : TypeId} {cs : List Value} (ht : P.underlying t = some .bool) (h : ∃ m y, DataW.trod enc P w base spare held m t cs = some y) :
    ∃ b : Bool, cs = [.bool b] := by
  obtain ⟨m, y, h⟩ := h
  obtain ⟨n, h1, _⟩ := DataW.trod_bool ht h
  exact ⟨n, h1⟩
theorem see_bytes {t e : TypeId} {cs : List Value} (ht : P.underlying t = some (.slice e)) (he : P.underlying e = some (.int .u8)) (hc : P.cellsOf e = 1) (h : ∃ m y, DataW.trod enc P w base spare held m t cs = some y) (h1 : cs.length = 1) :
    ∃ (a : Option Addr) (d : List UInt8) (cap : Nat), cs = [.slice a d.length cap] ∧ Lies w a (ub d) ∧ d.length ≤ cap ∧ cap ≤ maxLen := by
  obtain ⟨m, y, h⟩ := h
  match cs, h1 with
  | [v], _ =>
    obtain ⟨a, d, cap, rfl, h2⟩ := open_bytes ht he hc h
    exact ⟨a, d, cap, rfl, h2⟩
/-- Texts. -/
theorem see_strs {t e : TypeId} {cs : List Value} (ht : P.underlying t = some (.slice e)) (he : P.underlying e = some .string) (hc : P.cellsOf e = 1) (h : ∃ m y, DataW.trod enc P w base spare held m t cs = some y) :
    ∃ (a : Option Addr) (l : List (List UInt8)) (cap : Nat), cs = [.slice a l.length cap] ∧ Lies w a (l.map fun s => Value.string ⟨⟨s⟩⟩) ∧ l.length ≤ cap ∧ cap ≤ maxLen ∧ ∀ s ∈ l, s.length ≤ maxLen := by
  obtain ⟨m, y, h⟩ := h
  rcases open_strs ht he hc h with ⟨rfl, _⟩ | ⟨a, len, cap, m, Sx, rfl, _, hl, hm, hmm, _, hx⟩
  · exact ⟨none, [], 0, rfl, Lies.nil _ _, Nat.le_refl _, Nat.zero_le _, by simp⟩
  · have hlm : len ≤ m := by rw [hmm]; split <;> omega
    refine ⟨some a, (List.range len).map fun i => (Sx i).data.toList, cap, by simp, ?_, by simpa using hl, hm, ?_⟩
    · intro j u hj
      have hjl : j < len := by
        have := (List.getElem?_eq_some_iff.1 hj).1
        simpa using this
      have hu : u = .string (Sx j) := by
        simp [hjl] at hj
        exact hj.symm
      obtain ⟨b, off, spot⟩ := a
      have hspot : spot = none := by
        have := World.cell?_spot (hx 0 (by omega)).1
        simpa [Addr.add] using this
      subst hspot
      refine ⟨b, off, rfl, ?_⟩
      have h1 := (hx j (by omega)).1
      rw [Go.WideShapes.add_plain] at h1
      rw [h1, hu]
    · intro s hs
      obtain ⟨i, hi, rfl⟩ := List.mem_map.1 hs
      have := (hx i (by have := List.mem_range.1 hi; omega)).2
      simpa using this
end
end Go.Proofs.Ytchmcjimnliodaa
