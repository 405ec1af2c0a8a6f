/- Requests that came in, read. -/
import Derived.Test.YtchmcjimnliodaaOpenF
import Derived.Test.YtchmcjimnliodaaC18m
namespace Go.Proofs.Ytchmcjimnliodaa
open Go Go.RowKit Go.ChangeShapes Go.WideShapes Go.ChangeAt Go.Deep

section
variable {H : Type} {enc : TypeId × Value → H} {w : World} {base : Nat} {spare : Nat → Bool} {held : Bool}
theorem open_spec {cs : List Value} (h : ∃ m y, DataW.trod enc Try.prog w base spare held m 46 cs = some y) :
    ∃ (s : Sp) (a : Option Addr) (cap : Nat), cs = s.cells a cap ∧ (∀ c : Cm, c.token < 18446744073709551616 → I64 c.value → I64 c.kind → c.name.length ≤ maxLen → c.worker.length ≤ maxLen → c.sp = s → c.raw) ∧ Lies w a (strs s.deps) := by
  obtain ⟨m, y, h⟩ := h
  have hl : cs.length = 11 := (len_of Try.underlying46 h).trans (by kernel_rfl)
  obtain ⟨s0, h0, m0⟩ := see_str Try.underlying9 (fld Try.underlying46 h (i := 0) (o := 0) (n := 1) rfl rfl rfl (by kernel_rfl))
  obtain ⟨s1, h1, m1⟩ := see_str Try.underlying9 (fld Try.underlying46 h (i := 1) (o := 1) (n := 1) rfl rfl rfl (by kernel_rfl))
  obtain ⟨n2, h2, l2, u2⟩ := see_i64 Try.underlying3 (fld Try.underlying46 h (i := 2) (o := 2) (n := 1) rfl rfl rfl (by kernel_rfl))
  obtain ⟨n3, h3, l3, u3⟩ := see_i64 Try.underlying2 (fld Try.underlying46 h (i := 3) (o := 3) (n := 1) rfl rfl rfl (by kernel_rfl))
  obtain ⟨a, ds, cap, h4, ld, lc, mc, md⟩ := see_strs Try.underlying44 Try.underlying9 (by kernel_rfl) (fld Try.underlying46 h (i := 4) (o := 4) (n := 1) rfl rfl rfl (by kernel_rfl))
  obtain ⟨n5, h5, l5, u5⟩ := see_i64 Try.underlying2 (fld Try.underlying46 h (i := 5) (o := 5) (n := 1) rfl rfl rfl (by kernel_rfl))
  obtain ⟨n6, h6, l6, u6⟩ := see_i64 Try.underlying2 (fld Try.underlying46 h (i := 6) (o := 6) (n := 1) rfl rfl rfl (by kernel_rfl))
  obtain ⟨n7, h7, l7, u7⟩ := see_i64 Try.underlying3 (fld Try.underlying46 h (i := 7) (o := 7) (n := 1) rfl rfl rfl (by kernel_rfl))
  obtain ⟨n8, h8, l8, u8⟩ := see_i64 Try.underlying2 (fld Try.underlying46 h (i := 8) (o := 8) (n := 1) rfl rfl rfl (by kernel_rfl))
  obtain ⟨s9, h9, m9⟩ := see_str Try.underlying9 (fld Try.underlying46 h (i := 9) (o := 9) (n := 1) rfl rfl rfl (by kernel_rfl))
  obtain ⟨n10, h10, l10, u10⟩ := see_i64 Try.underlying3 (fld Try.underlying46 h (i := 10) (o := 10) (n := 1) rfl rfl rfl (by kernel_rfl))
  have e : cs.drop 11 = [] := List.drop_eq_nil_of_le (by omega)
  have e := cutAt h10 e rfl
  have e := cutAt h9 e rfl
  have e := cutAt h8 e rfl
  have e := cutAt h7 e rfl
  have e := cutAt h6 e rfl
  have e := cutAt h5 e rfl
  have e := cutAt h4 e rfl
  have e := cutAt h3 e rfl
  have e := cutAt h2 e rfl
  have e := cutAt h1 e rfl
  have e := cutAt h0 e rfl
  exact ⟨⟨s0, s1, n2, n3, ds, n5, n6, n7, n8, s9, n10⟩, a, cap, e, fun c ht hv hk hn hw hs => by
    have md' : ds.length ≤ maxLen := by omega
    obtain ⟨_, _, _, _, _, sp⟩ := c
    subst hs
    exact ⟨ht, hv, hk, ⟨l2, u2⟩, ⟨l3, u3⟩, ⟨l5, u5⟩, ⟨l6, u6⟩, ⟨l7, u7⟩, ⟨l8, u8⟩, ⟨l10, u10⟩, hn, hw, m0, m1, m9, md', md⟩, ld⟩
theorem open_cmd {cs : List Value} (h : ∃ m y, DataW.trod enc Try.prog w base spare held m 48 cs = some y) :
    ∃ (c : Cm) (a : Option Addr) (cap : Nat), cs = c.cells a cap ∧ c.raw ∧ Lies w a (strs c.sp.deps) := by
  obtain ⟨m, y, h⟩ := h
  have hl : cs.length = 16 := (len_of Try.underlying48 h).trans (by kernel_rfl)
  obtain ⟨n0, h0, l0, u0⟩ := see_i64 Try.underlying3 (fld Try.underlying48 h (i := 0) (o := 0) (n := 1) rfl rfl rfl (by kernel_rfl))
  obtain ⟨s1, h1, m1⟩ := see_str Try.underlying9 (fld Try.underlying48 h (i := 1) (o := 1) (n := 1) rfl rfl rfl (by kernel_rfl))
  obtain ⟨s2, h2, m2⟩ := see_str Try.underlying9 (fld Try.underlying48 h (i := 2) (o := 2) (n := 1) rfl rfl rfl (by kernel_rfl))
  obtain ⟨n3, h3, m3⟩ := see_u64 Try.underlying42 (fld Try.underlying48 h (i := 3) (o := 3) (n := 1) rfl rfl rfl (by kernel_rfl))
  obtain ⟨n4, h4, l4, u4⟩ := see_i64 Try.underlying2 (fld Try.underlying48 h (i := 4) (o := 4) (n := 1) rfl rfl rfl (by kernel_rfl))
  obtain ⟨s, a, cap, h5, hr, ld⟩ := open_spec (fld Try.underlying48 h (i := 5) (o := 5) (n := 11) rfl rfl rfl (by kernel_rfl))
  have e : cs.drop 16 = [] := List.drop_eq_nil_of_le (by omega)
  have e := cutAt h5 e rfl
  have e := cutAt h4 e rfl
  have e := cutAt h3 e rfl
  have e := cutAt h2 e rfl
  have e := cutAt h1 e rfl
  have e := cutAt h0 e rfl
  exact ⟨⟨n0, s1, s2, n3, n4, s⟩, a, cap, e, hr _ m3 ⟨l4, u4⟩ ⟨l0, u0⟩ m1 m2 rfl, ld⟩
theorem open_req {cs : List Value} (h : ∃ m y, DataW.trod enc Try.prog w base spare held m 50 cs = some y) :
    ∃ (q : Rq) (a : Option Addr) (cap : Nat), cs = q.cells a cap ∧ q.raw ∧ Lies w a (strs q.c.sp.deps) := by
  obtain ⟨m, y, h⟩ := h
  have hl : cs.length = 18 := (len_of Try.underlying50 h).trans (by kernel_rfl)
  obtain ⟨n0, h0, m0⟩ := see_u64 Try.underlying42 (fld Try.underlying50 h (i := 0) (o := 0) (n := 1) rfl rfl rfl (by kernel_rfl))
  obtain ⟨n1, h1, m1⟩ := see_u64 Try.underlying42 (fld Try.underlying50 h (i := 1) (o := 1) (n := 1) rfl rfl rfl (by kernel_rfl))
  obtain ⟨c, a, cap, h2, hr, ld⟩ := open_cmd (fld Try.underlying50 h (i := 2) (o := 2) (n := 16) rfl rfl rfl (by kernel_rfl))
  have e : cs.drop 18 = [] := List.drop_eq_nil_of_le (by omega)
  have e := cutAt h2 e rfl
  have e := cutAt h1 e rfl
  have e := cutAt h0 e rfl
  exact ⟨⟨n0, n1, c⟩, a, cap, e, ⟨m0, m1, hr⟩, ld⟩
end
end Go.Proofs.Ytchmcjimnliodaa
