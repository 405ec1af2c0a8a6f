/- Records that came in, read. -/
import Derived.Test.YtchmcjimnliodaaOpen
import Derived.Test.YtchmcjimnliodaaLawR
import Derived.Test.YtchmcjimnliodaaMix
namespace Go.Proofs.Ytchmcjimnliodaa
open Go Go.RowKit Go.ChangeShapes Go.WideShapes Go.ChangeAt Go.Deep

instance : Inhabited RecAt := ⟨⟨⟨0, []⟩, none, 0⟩⟩
theorem flat_inv (xs : List RecAt) : ∀ (j : Nat) (u : Value), (xs.flatMap RecAt.cells)[j]? = some u →
    ∃ i, ∃ h : i < xs.length, (j = i * 2 ∧ u = .int .u8 (xs[i]).r.k.toNat) ∨ (j = i * 2 + 1 ∧ u = .slice (xs[i]).a (xs[i]).r.d.length (xs[i]).cap) := by
  induction xs with
  | nil => intro j u h; simp at h
  | cons x xs ih =>
    intro j u h
    match j, h with
    | 0, h => exact ⟨0, by simp, .inl ⟨rfl, by simpa [RecAt.cells] using h.symm⟩⟩
    | 1, h => exact ⟨0, by simp, .inr ⟨rfl, by simpa [RecAt.cells] using h.symm⟩⟩
    | j + 2, h =>
      simp only [List.flatMap_cons, RecAt.cells, List.cons_append, List.nil_append, List.getElem?_cons_succ] at h
      obtain ⟨i, hi, h1⟩ := ih j u h
      refine ⟨i + 1, by simpa using hi, ?_⟩
      rcases h1 with ⟨rfl, rfl⟩ | ⟨rfl, rfl⟩
      · exact .inl ⟨by omega, by simp⟩
      · exact .inr ⟨by omega, by simp⟩
section
variable {H : Type} {enc : TypeId × Value → H} {P : Program} {w : World} {base : Nat} {spare : Nat → Bool} {held : Bool}
/-- A slice of records. -/
theorem open_recs {t e eb : TypeId} {f0 f1 : Field} {fuel : Nat} {v : Value} {x : DataW H × List MemPlace} (ht : P.underlying t = some (.slice e)) (he : P.underlying e = some (.struct #[f0, f1]))
    (ce : P.cellsOf e = 2) (o0 : f0.offset = 0) (o1 : f1.offset = 1) (c0 : P.cellsOf f0.type = 1) (c1 : P.cellsOf f1.type = 1) (h0 : P.underlying f0.type = some (.int .u8)) (h1 : P.underlying f1.type = some (.slice eb)) (h2 : P.underlying eb = some (.int .u8)) (cb : P.cellsOf eb = 1)
    (h : DataW.trod enc P w base spare held fuel t [v] = some x) :
    ∃ (a : Option Addr) (xs : List RecAt) (cap : Nat), v = .slice a xs.length cap ∧ Recs w a xs ∧ xs.length ≤ cap ∧ cap ≤ maxLen := by
  rcases open_slice_pairs ht he ce o0 o1 c0 c1 h with ⟨hcs, _⟩ | ⟨a, len, cap, m, n, V0, V1, D0, D1, P0, P1, hcs, _, hl, hm, hmm, _, hx⟩
  · obtain rfl : v = .slice none 0 0 := by simpa using hcs
    exact ⟨none, [], 0, rfl, ⟨Lies.nil _ _, by simp⟩, Nat.le_refl _, Nat.zero_le _⟩
  · obtain rfl : v = .slice (some a) len cap := by simpa using hcs
    have hlm : len ≤ m := by rw [hmm]; split <;> omega
    obtain ⟨Y, hY⟩ := choose_lt (n := len) (α := RecAt) (p := fun i y => V0 i = .int .u8 y.r.k.toNat ∧ V1 i = .slice y.a y.r.d.length y.cap ∧ Lies w y.a (ub y.r.d)) (fun i hi => by
      obtain ⟨_, _, t0, t1⟩ := hx i (by omega)
      obtain ⟨z, e0, _, wz⟩ := DataW.trod_int h0 t0
      obtain ⟨ax, d, cx, e1, hlies, _⟩ := open_bytes h1 h2 cb t1
      have hb := _root_.Go.bounds_u8 wz
      have e2 : V0 i = .int .u8 z := by simpa using e0
      refine ⟨⟨⟨UInt8.ofNat z.toNat, d⟩, ax, cx⟩, ?_, e1, hlies⟩
      rw [e2]
      simp only [UInt8.toNat_ofNat']
      congr 1
      omega)
    refine ⟨some a, (List.range len).map Y, cap, by simp, ⟨?_, ?_⟩, by simpa using hl, hm⟩
    · intro j u hj
      obtain ⟨i, hi, h3⟩ := flat_inv _ j u hj
      have hi' : i < len := by simpa using hi
      obtain ⟨k0, k1, _⟩ := hx i (by omega)
      obtain ⟨y0, y1, _⟩ := hY i hi'
      obtain ⟨b, off, spot⟩ := a
      have hspot : spot = none := by simpa [Addr.add] using World.cell?_spot (hx 0 (by omega)).1
      subst hspot
      refine ⟨b, off, rfl, ?_⟩
      rw [Go.WideShapes.add_plain] at k0 k1
      rcases h3 with ⟨rfl, rfl⟩ | ⟨rfl, rfl⟩
      · rw [k0, y0]; simp
      · rw [show off + (i * 2 + 1) = off + (i * 2 + 1) from rfl, k1, y1]; simp
    · intro y hy
      obtain ⟨i, hi, rfl⟩ := List.mem_map.1 hy
      exact (hY i (by simpa using hi)).2.2
end
end Go.Proofs.Ytchmcjimnliodaa
