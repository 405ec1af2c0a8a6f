/- octet's writers and readers as things in memory. -/
import Derived.Test.YtchmcjimnliodaaOctR
import Derived.Test.YtchmcjimnliodaaVcT
import Derived.Test.YtchmcjimnliodaaMix
namespace Go.Proofs.Ytchmcjimnliodaa
open Go Go.RowKit
set_option linter.unusedVariables false

theorem Wr.lts {w : World} {B : Nat} {r : Option Nat} {bs : List UInt8} (h : Wr w B r bs) : ∀ k, (k = B ∨ r = some k) → k < w.heap.size := by
  obtain ⟨a, cap, hb, hrow, rfl⟩ := h
  rintro k (rfl | hk)
  · exact hb.lt
  · exact hrow.lt k hk
/-- A writer that has these bytes. -/
def wrI (B : Nat) (r : Option Nat) (bs : List UInt8) : It :=
  .gen (fun k => k = B ∨ r = some k) (fun w => Wr w B r bs) (fun w w' hk _ h => by
    obtain ⟨a, cap, hb, hrow, rfl⟩ := h
    exact ⟨a, cap, (hk B (.inl rfl)).trans hb, hrow.keep fun b hb' _ => hk b (.inr hb'), rfl⟩)
theorem Rd.lts {w : World} {B : Nat} {r : Option Nat} {s : Rs} (h : Rd w B r s) (hs : s.b ≠ []) : ∀ k, (k = B ∨ r = some k) → k < w.heap.size := by
  obtain ⟨a, cap, hb, hl, h1, h2, rfl, h3⟩ := h
  rintro k (rfl | hk)
  · exact hb.lt
  · obtain ⟨b, o, rfl, hlt, _⟩ := hl.addr (by intro e; apply hs; cases hc : s.b with | nil => rfl | cons x t => rw [hc] at e; simp [ub] at e)
    obtain rfl : b = k := Option.some.inj hk
    exact hlt
section
variable {S : Nat → Prop} {w0 w : World} {L : List It} {j B : Nat} {r : Option Nat} {bs : List UInt8} {K : Value → World → Prop}
theorem wr_upd {w' : World} {bs' : List UInt8} (H : Hp S w0 w L) (hk : At L j (wrI B r bs)) (h : WrTo w w' B r bs') : ∃ r', Hp S w0 w' (L.set j (wrI B r' bs')) := by
  obtain ⟨r', h1, h2⟩ := h.now
  refine ⟨r', H.upd hk.get (i' := wrI B r' bs') h.only ⟨h1, h1.lts⟩ ?_⟩
  rintro k (rfl | hr)
  · exact .inl (.inl rfl)
  · rcases h2 with rfl | ⟨q, rfl, hq⟩
    · exact .inl (.inr hr)
    · right; injection hr with hr; omega
theorem wnum_ret (H : Hp S w0 w L) (hk : At L j (wrI B r bs)) {x : Nat} (hx : x < 18446744073709551616) (hlen : bs.length + 10 ≤ 1099511627776) (k : ∀ r' w', Hp S w0 w' (L.set j (wrI B r' (bs ++ num x))) → K (.tuple #[]) w') :
    Ret Try.prog 68 #[.pointer (some ⟨B, 0, none⟩), .int .u64 x] w K := by
  refine Ret.mk Try.call68 ((num_any B r bs x w (H.ok _ hk.mem).1 hx hlen).mono ?_)
  rintro e w' ⟨rfl, h⟩
  obtain ⟨r', h'⟩ := wr_upd H hk h
  exact ⟨_, rfl, k r' w' h'⟩
theorem wint_ret (H : Hp S w0 w L) (hk : At L j (wrI B r bs)) {x : Int} (hx : I64 x) (hlen : bs.length + 10 ≤ 1099511627776) (k : ∀ r' w', Hp S w0 w' (L.set j (wrI B r' (bs ++ num (fold x)))) → K (.tuple #[]) w') :
    Ret Try.prog 139 #[.pointer (some ⟨B, 0, none⟩), .int .i64 x] w K := by
  refine Ret.mk Try.call139 ((int_any B r bs x w (H.ok _ hk.mem).1 hx hlen).mono ?_)
  rintro e w' ⟨rfl, h⟩
  obtain ⟨r', h'⟩ := wr_upd H hk h
  exact ⟨_, rfl, k r' w' h'⟩
theorem wflag_ret (H : Hp S w0 w L) (hk : At L j (wrI B r bs)) {x : Bool} (hlen : bs.length + 10 ≤ 1099511627776) (k : ∀ r' w', Hp S w0 w' (L.set j (wrI B r' (bs ++ num (if x then 1 else 0)))) → K (.tuple #[]) w') :
    Ret Try.prog 134 #[.pointer (some ⟨B, 0, none⟩), .bool x] w K := by
  refine Ret.mk Try.call134 ((flag_any B r bs x w (H.ok _ hk.mem).1 hlen).mono ?_)
  rintro e w' ⟨rfl, h⟩
  obtain ⟨r', h'⟩ := wr_upd H hk h
  exact ⟨_, rfl, k r' w' h'⟩
theorem wtext_ret (H : Hp S w0 w L) (hk : At L j (wrI B r bs)) {x : List UInt8} (hlen : bs.length + x.length + 10 ≤ 1099511627776) (k : ∀ r' w', Hp S w0 w' (L.set j (wrI B r' (bs ++ (num x.length ++ x)))) → K (.tuple #[]) w') :
    Ret Try.prog 135 #[.pointer (some ⟨B, 0, none⟩), .string ⟨⟨x⟩⟩] w K := by
  refine Ret.mk Try.call135 ((text_any B r bs ⟨⟨x⟩⟩ w (H.ok _ hk.mem).1 hlen).mono ?_)
  rintro e w' ⟨rfl, h⟩
  obtain ⟨r', h'⟩ := wr_upd H hk h
  exact ⟨_, rfl, k r' w' h'⟩
theorem wbytes_ret (H : Hp S w0 w L) (hk : At L j (wrI B r bs)) (hlen : bs.length ≤ 1099511627776) (k : ∀ a cap w', Hp S w0 w' (.row 5 1 a bs.length cap (ub bs) :: L) → K (.slice a bs.length cap) w') :
    Ret Try.prog 70 #[.pointer (some ⟨B, 0, none⟩)] w K := by
  refine Ret.mk Try.call70 ((bytes_any B r bs w (H.ok _ hk.mem).1 hlen).mono ?_)
  rintro e w' ⟨z, ⟨a, cap, rfl, hrow, _, hfr⟩, hp⟩
  exact ⟨_, rfl, k a cap w' (H.fresh hp (i := .row 5 1 a bs.length cap (ub bs)) hrow hfr)⟩
/-- slices.Clone of bytes. -/
theorem cloneb_ret (H : Hp S w0 w L) {a : Option Addr} {n cap : Nat} (hn : bs.length = n) (hl : Lies w a (ub bs)) (hlen : n ≤ 1099511627776) (k : ∀ a' cap' w', Hp S w0 w' (.row 5 1 a' n cap' (ub bs) :: L) → K (.slice a' n cap') w') : Ret Try.prog 61 #[.slice a n cap] w K := by
  subst hn
  refine Ret.mk Try.call61 ((clone_bytes a cap bs w hl hlen).mono ?_)
  rintro e w' ⟨⟨a, cap, rfl, hrow, _, hfr⟩, hp⟩
  exact ⟨_, rfl, k a cap w' (H.fresh hp (i := .row 5 1 a bs.length cap (ub bs)) hrow hfr)⟩

/-! ### Readers -/
/-- A reader in this state. -/
def rdI (B : Nat) (r : Option Nat) (s : Rs) : It :=
  .gen (fun k => k = B ∨ r = some k) (fun w => Rd w B r s) (fun w w' hk _ h => by
    obtain ⟨a, cap, hb, hl, h1, h2, rfl, h3⟩ := h
    exact ⟨a, cap, (hk B (.inl rfl)).trans hb, hl.keep fun b hb' _ => hk b (.inr hb'), h1, h2, rfl, h3⟩)
variable {s : Rs}
theorem rd_upd {w' : World} {s' : Rs} (H : Hp S w0 w L) (hk : At L j (rdI B r s)) (h : RdTo w w' B r s') : ∃ r', Hp S w0 w' (L.set j (rdI B r' s')) := by
  obtain ⟨r', h1, h2⟩ := h.now
  have hlt := (H.ok _ hk.mem).2
  have hsub : ∀ k, (k = B ∨ r' = some k) → (k = B ∨ r = some k) := by
    rintro k (rfl | hr)
    · exact .inl rfl
    · rcases h2 with rfl | rfl
      · exact .inr hr
      · cases hr
  refine ⟨r', H.upd hk.get (i' := rdI B r' s') (h.only.mono fun x _ hx => .inl hx) ⟨h1, fun k hk' => Nat.lt_of_lt_of_le (hlt k (hsub k hk')) h.only.size⟩ (fun k hk' => .inl (hsub k hk'))⟩
theorem rnum_ret (H : Hp S w0 w L) (hk : At L j (rdI B r s)) (k : ∀ r' w', Hp S w0 w' (L.set j (rdI B r' s.num.2)) → K (.int .u64 s.num.1) w') : Ret Try.prog 74 #[.pointer (some ⟨B, 0, none⟩)] w K := by
  refine Ret.mk Try.call74 ((rnum_any (H.ok _ hk.mem).1).mono ?_)
  rintro e w' ⟨rfl, h⟩
  obtain ⟨r', h'⟩ := rd_upd H hk h
  exact ⟨_, rfl, k r' w' h'⟩
theorem rint_ret (H : Hp S w0 w L) (hk : At L j (rdI B r s)) (k : ∀ r' w', Hp S w0 w' (L.set j (rdI B r' s.int.2)) → K (.int .i64 s.int.1) w') : Ret Try.prog 137 #[.pointer (some ⟨B, 0, none⟩)] w K := by
  refine Ret.mk Try.call137 ((rint_any (H.ok _ hk.mem).1).mono ?_)
  rintro e w' ⟨rfl, h⟩
  obtain ⟨r', h'⟩ := rd_upd H hk h
  exact ⟨_, rfl, k r' w' h'⟩
theorem rtext_ret (H : Hp S w0 w L) (hk : At L j (rdI B r s)) {most : Int} (hm : 0 ≤ most) (hm2 : most ≤ 1099511627776) (k : ∀ r' w', Hp S w0 w' (L.set j (rdI B r' (s.text most).2)) → K (.string ⟨⟨(s.text most).1⟩⟩) w') :
    Ret Try.prog 141 #[.pointer (some ⟨B, 0, none⟩), .int .i64 most] w K := by
  refine Ret.mk Try.call141 ((rtext_any most hm hm2 (H.ok _ hk.mem).1).mono ?_)
  rintro e w' ⟨rfl, h⟩
  obtain ⟨r', h'⟩ := rd_upd H hk h
  exact ⟨_, rfl, k r' w' h'⟩
theorem rcount_ret (H : Hp S w0 w L) (hk : At L j (rdI B r s)) {most : Int} (hm : 0 ≤ most) (hm2 : most ≤ 1099511627776) (k : ∀ r' w', Hp S w0 w' (L.set j (rdI B r' (s.count most).2)) → K (.int .i64 (s.count most).1) w') :
    Ret Try.prog 105 #[.pointer (some ⟨B, 0, none⟩), .int .i64 most] w K := by
  refine Ret.mk Try.call105 ((count_any most hm hm2 (H.ok _ hk.mem).1).mono ?_)
  rintro e w' ⟨rfl, h⟩
  obtain ⟨r', h'⟩ := rd_upd H hk h
  exact ⟨_, rfl, k r' w' h'⟩
theorem rerr_ret (H : Hp S w0 w L) (hk : At L j (rdI B r s)) (k : K (.int .i64 s.e) w) : Ret Try.prog 75 #[.pointer (some ⟨B, 0, none⟩)] w K := by
  refine Ret.mk Try.call75 ((err_any (H.ok _ hk.mem).1).mono ?_)
  rintro e w' ⟨rfl, rfl⟩
  exact ⟨_, rfl, k⟩
theorem rfin_ret (H : Hp S w0 w L) (hk : At L j (rdI B r s)) (k : K (.int .i64 s.fin) w) : Ret Try.prog 76 #[.pointer (some ⟨B, 0, none⟩)] w K := by
  refine Ret.mk Try.call76 ((fin_any (H.ok _ hk.mem).1).mono ?_)
  rintro e w' ⟨rfl, rfl⟩
  exact ⟨_, rfl, k⟩
end
end Go.Proofs.Ytchmcjimnliodaa
