/- Arguments that came in: what lies in memory when slices of bytes, and of structs with bytes in them, are read. No program in sight. -/
import Derived.Test.YtipeanblfjimdaaDoorBase
import Derived.WalkKit
import Derived.ProofKit
import Derived.OpenShut
import Derived.ShutString
import Derived.ChangeOld
import Derived.Below
import Derived.Deep.SlicePairs
namespace Go.Proofs.YtipeanblfjimdaaDoor
open Go Go.RowKit Go.ChangeShapes Go.WideShapes Go.ChangeAt

section
variable {H : Type} {enc : TypeId × Value → H} {P : Program} {w : World} {base : Nat} {spare : Nat → Bool} {held : Bool}
theorem bytes_of (zs : List Int) (hz : ∀ n ∈ zs, (Lit.int .u8 n).wf = true) : ∃ d : List UInt8, d.length = zs.length ∧ ∀ i (h : i < d.length), (zs.getD i 0) = ((d[i]).toNat : Int) := by
  refine ⟨zs.map fun z => UInt8.ofNat z.toNat, by simp, fun i hi => ?_⟩
  have hi' : i < zs.length := by simpa using hi
  have hw := hz _ (List.getElem_mem hi')
  have hb := _root_.Go.bounds_u8 hw
  rw [List.getElem_map, UInt8.toNat_ofNat', List.getD_eq_getElem?_getD, List.getElem?_eq_getElem hi', Option.getD_some]
  omega
/-- A slice of bytes. -/
theorem open_bytes {t e : TypeId} {fuel : Nat} {v : Value} {x : DataW H × List MemPlace} (ht : P.underlying t = some (.slice e)) (he : P.underlying e = some (.int .u8)) (hc : P.cellsOf e = 1) (h : DataW.trod enc P w base spare held fuel t [v] = some x) :
    ∃ (a : Option Addr) (d : List UInt8) (cap : Nat), v = .slice a d.length cap ∧ Lies w a (ub d) ∧ d.length ≤ cap ∧ cap ≤ maxLen := by
  rcases open_ints ht he hc h with ⟨hcs, _⟩ | ⟨a, l, c, zs, hcs, _, hl, hm, hz, _, hcell, hwz⟩
  · obtain rfl : v = .slice none 0 0 := by simpa using hcs
    exact ⟨none, [], 0, rfl, Lies.nil _ _, Nat.le_refl _, Nat.zero_le _⟩
  · obtain rfl : v = .slice (some a) l c := by simpa using hcs
    obtain ⟨d, hd, hdz⟩ := bytes_of zs hwz
    have hlz : l ≤ zs.length := by rw [hz]; split <;> omega
    refine ⟨some a, d.take l, c, by simp [hd, Nat.min_eq_left hlz], ?_, by simp; omega, hm⟩
    intro j u hj
    have hjl : j < l ∧ j < d.length := by
      have := (List.getElem?_eq_some_iff.1 hj).1
      simp [ub] at this; omega
    have hu : u = .int .u8 (d[j]'hjl.2).toNat := by
      have := (List.getElem?_eq_some_iff.1 hj).2
      rw [← this]
      simp [ub]
    obtain ⟨b, off, rfl, hx⟩ := _root_.Go.ints_at hcell (by omega)
    refine ⟨b, off, rfl, ?_⟩
    rw [hx j (by omega), hu, hdz j hjl.2]
end
end Go.Proofs.YtipeanblfjimdaaDoor
