/- Strings in a walk with things in memory. No program in sight. -/
import Derived.Test.YtipeanblfjimdaaDoorVcR
import Derived.Deep.AppendSrc
namespace Go.Proofs.YtipeanblfjimdaaDoor
open Go Go.RowKit

section
variable {P : Program} {S : Nat → Prop} {w0 w : World} {L : List It}
theorem run_append_str {t ts ty e : TypeId} (he : ElemT P t e 1 1) (hts : P.underlying ts = some .string) (W : World) (a : Option Addr) (n cap : Nat) (xs : List Value) (bs : List UInt8) (hrow : Row W e 1 a n cap xs) (hsz : n + bs.length ≤ 140737488355328) :
    ∃ a' cap' w', (Builtin.append_ #[t, ts] ty #[.slice a n cap, .string ⟨⟨bs⟩⟩]).run P W = .ok (.slice a' (n + bs.length) cap') w' ∧ Row w' e 1 a' (n + bs.length) cap' (xs ++ ub bs) ∧
      Only (fun k => ablk a = some k) W w' ∧ (ablk a' = ablk a ∨ ablk a' = some W.heap.size) := by
  obtain ⟨ht, h0, i, z, hi, hz, hsize, hby, hzs⟩ := he
  have hs := Src.ofString (P := P) W hts (⟨⟨bs⟩⟩ : ByteArray)
  have hb : byteCells (⟨⟨bs⟩⟩ : ByteArray) = ub bs := by simp [byteCells, ub]
  rw [hb, show (⟨⟨bs⟩⟩ : ByteArray).size = bs.length from rfl] at hs
  exact run_append_row (P := P) W t ts ty e i z 1 1 ht hi hz hsize hby hzs h0 a n cap xs hrow (.string ⟨⟨bs⟩⟩) bs.length (ub bs) hs (by simp only [maxLen]; omega) (by omega)
/-- append of a string onto a row. -/
theorem val_appS {K : Value → World → Prop} (h : Hp S w0 w L) {j : Nat} {t ts ty e : TypeId} (he : ElemT P t e 1 1) (hts : P.underlying ts = some .string) {a : Option Addr} {n cap : Nat} {xs : List Value} (hk' : At L j (.row e 1 a n cap xs)) {bs : List UInt8} (hsz : n + bs.length ≤ 140737488355328)
    (k : ∀ a' cap' w1, Only (fun k => ablk a = some k) w w1 → (ablk a' = ablk a ∨ ablk a' = some w.heap.size) → Hp S w0 w1 (L.set j (.row e 1 a' (n + bs.length) cap' (xs ++ ub bs))) → K (.slice a' (n + bs.length) cap') w1) :
    val P (Builtin.append_ #[t, ts] ty #[.slice a n cap, .string ⟨⟨bs⟩⟩]) w K := by
  have hk := hk'.get
  obtain ⟨a', cap', w1, hr, hrow, ho, hat⟩ := run_append_str (P := P) (ty := ty) he hts w a n cap xs bs (h.get hk) hsz
  exact val_ok hr (k a' cap' w1 ho hat (h.upd hk ho (i' := .row e 1 a' (n + bs.length) cap' (xs ++ ub bs)) hrow (fun q hq => by
    rcases hat with h2 | h2
    · exact .inl (show ablk a = some q from h2 ▸ hq)
    · right; have : some q = some w.heap.size := hq.symm.trans h2; injection this with this; omega)))
/-- 'string(b)'. -/
theorem val_conv {K : Value → World → Prop} {src dst e : TypeId} (hs : P.underlying src = some (.slice e)) (he : P.underlying e = some (.int .u8)) (hd : P.underlying dst = some .string) {a : Option Addr} {n cap : Nat} {bs : List UInt8} (hn : bs.length = n) (hl : Lies w a (ub bs))
    (k : K (.string ⟨⟨bs⟩⟩) w) : val P (convert src dst (.slice a n cap)) w K := val_ok (run_conv_string w src dst e hs he hd a n cap bs hn hl) k
theorem tk_pconv {K : Value → Prop} {hi : Nat} {src dst e : TypeId} (hs : P.underlying src = some (.slice e)) (he : P.underlying e = some (.int .u8)) (hd : P.underlying dst = some .string) {a : Option Addr} {n cap : Nat} {bs : List UInt8} (hn : bs.length = n) (hl : Lies w a (ub bs))
    (k : K (.string ⟨⟨bs⟩⟩)) : tk P (pT w) hi (convert src dst (.slice a n cap)) K := tk_iff.2 ⟨_, fun _ w' _ hT => run_conv_string w' src dst e hs he hd a n cap bs hn (hl.pure hT), k⟩
theorem rd_conv {K : Value → Prop} {src dst e : TypeId} (hs : P.underlying src = some (.slice e)) (he : P.underlying e = some (.int .u8)) (hd : P.underlying dst = some .string) {a : Option Addr} {n cap : Nat} {bs : List UInt8} (hn : bs.length = n) (hl : Lies w a (ub bs))
    (k : K (.string ⟨⟨bs⟩⟩)) : rd P (convert src dst (.slice a n cap)) w K := rd_iff.2 ⟨_, run_conv_string w src dst e hs he hd a n cap bs hn hl, k⟩
end
end Go.Proofs.YtipeanblfjimdaaDoor
