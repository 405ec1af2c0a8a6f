/- Acts that came in, read. -/
import Derived.Test.YtchmcjimnliodaaMW6
import Derived.Test.YtchmcjimnliodaaOpenF
import Derived.Test.YtchmcjimnliodaaWX7
import Derived.Deep.Slices
namespace Go.Proofs.Ytchmcjimnliodaa
open Go Go.RowKit Go.ChangeShapes Go.WideShapes Go.ChangeAt Go.Deep

instance : Inhabited ActAt := ⟨⟨0, 0, ⟨⟨0, []⟩, none, 0⟩, 0⟩⟩
section
variable {H : Type} {enc : TypeId × Value → H} {w : World} {base : Nat} {spare : Nat → Bool} {held : Bool}
def ActAt.good (w : World) (y : ActAt) : Prop :=
  Lies w y.x.a (ub y.x.r.d) ∧ (-9223372036854775808 ≤ y.kind ∧ y.kind ≤ 9223372036854775807) ∧ (-9223372036854775808 ≤ y.n ∧ y.n ≤ 9223372036854775807) ∧ y.keep < 18446744073709551616
theorem open_rec {cs : List Value} (h : ∃ m y, DataW.trod enc Try.prog w base spare held m 29 cs = some y) : ∃ x : RecAt, cs = x.cells ∧ Lies w x.a (ub x.r.d) := by
  obtain ⟨m, y, h⟩ := h
  have hl : cs.length = 2 := (len_of Try.underlying29 h).trans (by kernel_rfl)
  obtain ⟨n0, h0⟩ := see_u8 Try.underlying5 (fld Try.underlying29 h (i := 0) (o := 0) (n := 1) rfl rfl rfl (by kernel_rfl))
  obtain ⟨a, ds, cap, h1, ld, lc, mc⟩ := see_bytes Try.underlying24 Try.underlying5 (by kernel_rfl) (fld Try.underlying29 h (i := 1) (o := 1) (n := 1) rfl rfl rfl (by kernel_rfl)) (by simp; omega)
  have e : cs.drop 2 = [] := List.drop_eq_nil_of_le (by omega)
  have e := cutAt h1 e rfl
  have e := cutAt h0 e rfl
  exact ⟨⟨⟨n0, ds⟩, a, cap⟩, e, ld⟩
theorem open_act {cs : List Value} (h : ∃ m y, DataW.trod enc Try.prog w base spare held m 87 cs = some y) : ∃ y : ActAt, cs = y.cells ∧ y.good w := by
  obtain ⟨m, y, h⟩ := h
  have hl : cs.length = 5 := (len_of Try.underlying87 h).trans (by kernel_rfl)
  obtain ⟨n0, h0, l0, u0⟩ := see_i64 Try.underlying3 (fld Try.underlying87 h (i := 0) (o := 0) (n := 1) rfl rfl rfl (by kernel_rfl))
  obtain ⟨n1, h1, l1, u1⟩ := see_i64 Try.underlying3 (fld Try.underlying87 h (i := 1) (o := 1) (n := 1) rfl rfl rfl (by kernel_rfl))
  obtain ⟨x, h2, ld⟩ := open_rec (fld Try.underlying87 h (i := 2) (o := 2) (n := 2) rfl rfl rfl (by kernel_rfl))
  obtain ⟨n3, h3, m3⟩ := see_u64 Try.underlying42 (fld Try.underlying87 h (i := 3) (o := 4) (n := 1) rfl rfl rfl (by kernel_rfl))
  have e : cs.drop 5 = [] := List.drop_eq_nil_of_le (by omega)
  have e := cutAt h3 e rfl
  have e := cutAt h2 e rfl
  have e := cutAt h1 e rfl
  have e := cutAt h0 e rfl
  exact ⟨⟨n0, n1, x, n3⟩, e, ld, ⟨l0, u0⟩, ⟨l1, u1⟩, m3⟩
theorem acts_inv (ys : List ActAt) (j : Nat) (u : Value) (h : (actsC ys)[j]? = some u) : ∃ i q, ∃ hi : i < ys.length, j = i * 5 + q ∧ q < 5 ∧ ys[i].cells[q]? = some u := by
  have hj := (List.getElem?_eq_some_iff.1 h).1
  rw [actsC_length] at hj
  have hi : j / 5 < ys.length := by omega
  refine ⟨j / 5, j % 5, hi, by omega, by omega, ?_⟩
  have hp := flat_part (f := ActAt.cells) (n := 5) ys (fun _ _ => rfl) hi
  rw [← hp, List.getElem?_take, if_pos (by omega), List.getElem?_drop]
  rw [show j / 5 * 5 + j % 5 = j by omega]
  exact h
theorem open_acts {v : Value} (h : ∃ fuel x, DataW.trod enc Try.prog w base spare held fuel 85 [v] = some x) :
    ∃ (a : Option Addr) (ys : List ActAt) (cap : Nat), v = .slice a ys.length cap ∧ Acts w a ys ∧ ys.length ≤ cap ∧ cap ≤ maxLen := by
  obtain ⟨fuel, x, h⟩ := h
  rcases open_slice Try.underlying85 h with ⟨hcs, _⟩ | ⟨a, len, cap, m, n, D, Pl, hcs, _, hl, hm, hmm, _, hx⟩
  · obtain rfl : v = .slice none 0 0 := by simpa using hcs
    exact ⟨none, [], 0, rfl, ⟨Lies.nil _ _, by simp, by simp, by simp, by simp⟩, Nat.le_refl _, Nat.zero_le _⟩
  · obtain rfl : v = .slice (some a) len cap := by simpa using hcs
    have hlm : len ≤ m := by rw [hmm]; split <;> omega
    have c87 : Try.prog.cellsOf 87 = 5 := by kernel_rfl
    obtain ⟨Y, hY⟩ := choose_lt (n := len) (α := ActAt) (p := fun i y => y.good w ∧ ∀ q, q < 5 → w.cell? ((a.add (i * 5)).add q) = y.cells[q]?) (fun i hi => by
      obtain ⟨cs', h1, h2⟩ := hx i (by omega)
      rw [c87] at h1
      obtain ⟨_, hlen, hcell⟩ := World.cells?_some h1
      obtain ⟨y, rfl, hg⟩ := open_act ⟨_, _, h2⟩
      exact ⟨y, hg, fun q hq => hcell q hq⟩)
    refine ⟨some a, (List.range len).map Y, cap, by simp, ⟨?_, ?_, ?_, ?_, ?_⟩, by simpa using hl, hm⟩
    · intro j u hj
      obtain ⟨i, q, hi, rfl, hq, hu⟩ := acts_inv _ j u hj
      have hi' : i < len := by simpa using hi
      obtain ⟨b, off, spot⟩ := a
      have hcl := (hY i hi').2 q hq
      have hu' : (Y i).cells[q]? = some u := by simpa using hu
      rw [hu'] at hcl
      have hspot : spot = none := by
        have h0 := (hY 0 (by omega)).2 0 (by decide)
        have h1 : (Y 0).cells[0]? = some (.int .i64 (Y 0).kind) := rfl
        rw [h1] at h0
        have := World.cell?_spot h0
        simpa [Addr.add] using this
      subst hspot
      refine ⟨b, off, rfl, ?_⟩
      rw [Go.WideShapes.add_plain, Go.WideShapes.add_plain] at hcl
      rw [← hcl, Nat.add_assoc]
    all_goals
      intro y hy
      obtain ⟨i, hi, rfl⟩ := List.mem_map.1 hy
      obtain ⟨g1, g2, g3, g4⟩ := (hY i (by simpa using hi)).1
      first | exact g1 | exact g2 | exact g3 | exact g4
end
end Go.Proofs.Ytchmcjimnliodaa
