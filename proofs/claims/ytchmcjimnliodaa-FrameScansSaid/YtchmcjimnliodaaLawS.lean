/- What FrameScans' first loop goes through, in plain Lean, and what it keeps. -/
import Derived.Test.YtchmcjimnliodaaLawR
import Derived.Test.YtchmcjimnliodaaSqA
import Derived.Test.YtchmcjimnliodaaFrameS
namespace Go.Proofs.Ytchmcjimnliodaa
open Go.RowKit

theorem scan_head {s : BitVec 32} {at_ : Nat} {b : List UInt8} {p : Nat × Rec} {t : List (Nat × Rec)} (h : (scan s at_ b).1 = p :: t) :
    ∃ r n s', nxt s b = .ok (r, n, s') ∧ p = (at_, r) ∧ t = (scan s' (at_ + n) (b.drop n)).1 ∧ (scan s at_ b).2 = (scan s' (at_ + n) (b.drop n)).2 := by
  cases hN : nxt s b with
  | error e => rw [scan_err hN] at h; cases h
  | ok v =>
    obtain ⟨r, n, s'⟩ := v
    rw [scan_ok hN] at h ⊢
    injection h with h1 h2
    exact ⟨r, n, s', rfl, h1.symm, h2.symm, rfl⟩
theorem scan_none {s : BitVec 32} {at_ : Nat} {b : List UInt8} (h : (scan s at_ b).1 = []) : (∃ e, nxt s b = .error e) ∧ (scan s at_ b).2 = (at_, s) := by
  cases hN : nxt s b with
  | error e => exact ⟨⟨e, rfl⟩, by rw [scan_err hN]⟩
  | ok v =>
    obtain ⟨r, n, s'⟩ := v
    rw [scan_ok hN] at h
    cases h
theorem pre_at {s : BitVec 32} {l : List Rec} {rest pre : List (Nat × Rec)} {x : Nat × Rec} (h : pre ++ [x] <+: (starts s 0 l).zip l ++ rest) (hlt : pre.length < l.length) :
    x = (pos s l pre.length, l[pre.length]) := by
  obtain ⟨t, ht⟩ := h
  have h1 : ((starts s 0 l).zip l ++ rest)[pre.length]? = some x := by rw [← ht]; simp
  have hz : ((starts s 0 l).zip l)[pre.length]? = some (pos s l pre.length, l[pre.length]) := by
    rw [List.getElem?_zip_eq_some]
    refine ⟨?_, by simp [hlt]⟩
    have := starts_at s l 0 pre.length hlt
    simpa using this
  rw [List.getElem?_append_left (by simp [starts_length]; exact hlt), hz] at h1
  exact (Option.some.inj h1).symm
theorem pre_eq {α : Type} {p q r : List α} (h : p <+: q ++ r) (hl : p.length = q.length) : p = q := by
  obtain ⟨t, ht⟩ := h
  exact (List.append_inj ht hl).1
/-- Where the first loop stands when all records of the chain are through. -/
def Beyond (seed : BitVec 32) (A : List UInt8) (pre : List (Nat × Rec)) (endp : Nat) (last : BitVec 32) : Prop :=
  (scan seed 0 A).1 = pre ++ (scan last endp (A.drop endp)).1 ∧ (scan seed 0 A).2 = (scan last endp (A.drop endp)).2 ∧ endp ≤ A.length
theorem scan_all {seed : BitVec 32} {l : List Rec} {bh : List UInt8} (hl : ∀ r ∈ l, r.d.length ≤ 1024) :
    scan seed 0 (chain seed l ++ bh) = ((starts seed 0 l).zip l ++ (scan (chainSum seed l) (chain seed l).length bh).1, (scan (chainSum seed l) (chain seed l).length bh).2) := by
  have := scan_chain seed 0 l bh hl
  simpa using this
theorem Beyond.first {seed : BitVec 32} {l : List Rec} {bh : List UInt8} (hl : ∀ r ∈ l, r.d.length ≤ 1024) {pre : List (Nat × Rec)} (hp : pre <+: (scan seed 0 (chain seed l ++ bh)).1) (hn : pre.length = l.length) :
    Beyond seed (chain seed l ++ bh) pre (chain seed l).length (chainSum seed l) := by
  have e := scan_all (seed := seed) (l := l) (bh := bh) hl
  rw [e] at hp
  have he : pre = (starts seed 0 l).zip l := pre_eq hp (by simp [starts_length, hn])
  refine ⟨?_, ?_, by simp⟩
  · rw [drop_pre _ _ _ rfl, e, he]
  · rw [drop_pre _ _ _ rfl, e]
theorem Beyond.next {seed : BitVec 32} {A : List UInt8} {pre : List (Nat × Rec)} {endp : Nat} {last : BitVec 32} (h : Beyond seed A pre endp last) {x : Nat × Rec} (hp : pre ++ [x] <+: (scan seed 0 A).1) :
    ∃ n s', nxt last (A.drop endp) = .ok (x.2, n, s') ∧ x.1 = endp ∧ Beyond seed A (pre ++ [x]) (endp + n) s' := by
  obtain ⟨h1, h2, h3⟩ := h
  obtain ⟨t, ht⟩ := hp
  rw [h1, List.append_assoc] at ht
  have ht2 := List.append_cancel_left ht
  obtain ⟨r, n, s', hN, rfl, hr, hs⟩ := scan_head ht2.symm
  have hlen := nxt_len hN
  rw [List.length_drop] at hlen
  refine ⟨n, s', hN, rfl, ?_, ?_, by omega⟩
  · have hr' : t = (scan s' (endp + n) ((A.drop endp).drop n)).1 := hr
    rw [h1, ← ht2, hr', List.drop_drop, List.append_assoc]
  · rw [h2, hs, List.drop_drop]
theorem Beyond.last {seed : BitVec 32} {A : List UInt8} {pre : List (Nat × Rec)} {endp : Nat} {last : BitVec 32} (h : Beyond seed A pre endp last) (hp : pre = (scan seed 0 A).1) :
    (∃ e, nxt last (A.drop endp) = .error e) ∧ (scan seed 0 A).2 = (endp, last) := by
  obtain ⟨h1, h2, h3⟩ := h
  rw [← hp] at h1
  have : (scan last endp (A.drop endp)).1 = [] := by simpa using h1
  obtain ⟨k1, k2⟩ := scan_none this
  exact ⟨k1, by rw [h2, k2]⟩
/-- What FrameScans keeps through its loops. -/
structure E3 (w : World) (al : Option Addr) (k capl B14 : Nat) (a14 : Option Addr) (cap14 : Nat) (seed : BitVec 32) (l : List Rec) (B20 : Nat) (a5 : Option Addr) (cap5 : Nat) (A : List UInt8) (a : Option Addr) (cap : Nat) (C : List UInt8) (W : World) : Prop where
  b7 : Blk W w.heap.size #[.slice al k capl] 23
  b12 : Blk W (w.heap.size + 1) #[.bool false] 4
  b14 : Blk W B14 #[.slice a14 k cap14] 27
  r14 : Row W 3 1 a14 k cap14 (ints (heads seed l k))
  b20 : Blk W B20 #[.slice a5 A.length cap5] 24
  rA : Row W 5 1 a5 A.length cap5 (ub A)
  rC : Row W 5 1 a C.length cap (ub C)
  p : Pure w W
  lt : ∀ q, ablk a14 = some q ∨ ablk a5 = some q ∨ ablk a = some q → q < B20
  ltw : w.heap.size + 1 < B20
  lt14 : B14 < B20
section
variable {w : World} {al : Option Addr} {k capl B14 : Nat} {a14 : Option Addr} {cap14 : Nat} {seed : BitVec 32} {l : List Rec} {B20 : Nat} {a5 : Option Addr} {cap5 : Nat} {A : List UInt8} {a : Option Addr} {cap : Nat} {C : List UInt8} {W W' : World}
theorem E3.only {S : Nat → Prop} (h : E3 w al k capl B14 a14 cap14 seed l B20 a5 cap5 A a cap C W) (ho : Only S W W') (hS : ∀ q, S q → B20 < q) : E3 w al k capl B14 a14 cap14 seed l B20 a5 cap5 A a cap C W' := by
  obtain ⟨h1, h2, h3, h4, h5, h6, h7, h8, h9, h10, h11⟩ := h
  refine ⟨h1.only ho ?_, h2.only ho ?_, h3.only ho ?_, h4.only ho ?_, h5.only ho ?_, h6.only ho ?_, h7.only ho ?_, h8.trans ho ?_, h9, h10, h11⟩
  · intro h; have := hS _ h; omega
  · intro h; have := hS _ h; omega
  · intro h; have := hS _ h; omega
  · intro q hq h; have := hS _ h; have := h9 q (.inl hq); omega
  · intro h; have := hS _ h; omega
  · intro q hq h; have := hS _ h; have := h9 q (.inr (.inl hq)); omega
  · intro q hq h; have := hS _ h; have := h9 q (.inr (.inr hq)); omega
  · intro q hq h; have := hS _ h; omega
theorem E3.pure (h : E3 w al k capl B14 a14 cap14 seed l B20 a5 cap5 A a cap C W) (ho : Pure W W') : E3 w al k capl B14 a14 cap14 seed l B20 a5 cap5 A a cap C W' := h.only ho (fun _ h => h.elim)
theorem E3.far {row : Option Nat} {B : Nat} (h : E3 w al k capl B14 a14 cap14 seed l B20 a5 cap5 A a cap C W) (hB : w.heap.size ≤ B) (hg : W.grownBy W' row) (hr : ∀ r, row = some r → B ≤ r ∧ ∃ o : Obj, W.heap[r]? = some o ∧ o.isCells = false) : E3 w al k capl B14 a14 cap14 seed l B20 a5 cap5 A a cap C W' := by
  have hr2 : ∀ r, row = some r → ∃ o : Obj, W.heap[r]? = some o ∧ o.isCells = false := fun r e => (hr r e).2
  obtain ⟨h1, h2, h3, h4, h5, h6, h7, h8, h9, h10, h11⟩ := h
  exact ⟨h1.far hg hr2, h2.far hg hr2, h3.far hg hr2, h4.far hg hr2, h5.far hg hr2, h6.far hg hr2, h7.far hg hr2, h8.far hg (fun r e => Nat.le_trans hB (hr r e).1), h9, h10, h11⟩
end
/-- The first loop's word. -/
def FI (E : World → Prop) (B21 B22 B23 k : Nat) (seed : BitVec 32) (A C : List UInt8) (S : BitVec 32) (pre : List ScanIt) (W : World) : Prop :=
  E W ∧ ∃ (endp : Nat) (last : BitVec 32), Blk W B21 #[.int .i64 endp] 3 ∧ Blk W B22 #[.int .u32 last.toNat] 22 ∧ Blk W B23 #[.int .i64 pre.length] 3 ∧
    (pre.length ≤ k → endp = C.length ∧ last = S) ∧ (k ≤ pre.length → Beyond seed A (pre.map ScanIt.strip) endp last) ∧ pre.map ScanIt.strip <+: (scan seed 0 A).1
theorem FI.far {E : World → Prop} {B21 B22 B23 k : Nat} {seed : BitVec 32} {A C : List UInt8} {S : BitVec 32} {pre : List ScanIt} {W W' : World} {row : Option Nat} (h : FI E B21 B22 B23 k seed A C S pre W) (hE : E W → E W')
    (hg : W.grownBy W' row) (hr : ∀ r, row = some r → ∃ o : Obj, W.heap[r]? = some o ∧ o.isCells = false) : FI E B21 B22 B23 k seed A C S pre W' := by
  obtain ⟨h1, endp, last, h2, h3, h4, h5⟩ := h
  exact ⟨hE h1, endp, last, h2.far hg hr, h3.far hg hr, h4.far hg hr, h5⟩
theorem FI.pure {E : World → Prop} {B21 B22 B23 k : Nat} {seed : BitVec 32} {A C : List UInt8} {S : BitVec 32} {pre : List ScanIt} {W W' : World} (h : FI E B21 B22 B23 k seed A C S pre W) (hE : E W → E W') (hp : Pure W W') : FI E B21 B22 B23 k seed A C S pre W' := by
  obtain ⟨h1, endp, last, h2, h3, h4, h5⟩ := h
  exact ⟨hE h1, endp, last, h2.only hp id, h3.only hp id, h4.only hp id, h5⟩
/-- What the round is told of a record. -/
def FA (base : Nat) (seed : BitVec 32) (A : List UInt8) (pre : List ScanIt) (x : ScanIt) (B : Nat) (W : World) : Prop :=
  Blk W B #[.int .u8 x.r.k.toNat, .slice x.a x.r.d.length x.cap] 29 ∧ Row W 5 1 x.a x.r.d.length x.cap (ub x.r.d) ∧ base ≤ B ∧ (∀ q, ablk x.a = some q → base ≤ q) ∧ (pre ++ [x]).map ScanIt.strip <+: (scan seed 0 A).1 ∧ x.r.d.length ≤ 1024
theorem FA.far {base : Nat} {seed : BitVec 32} {A : List UInt8} {pre : List ScanIt} {x : ScanIt} {B : Nat} {W W' : World} {row : Option Nat} (h : FA base seed A pre x B W) (hg : W.grownBy W' row) (hr : ∀ r, row = some r → ∃ o : Obj, W.heap[r]? = some o ∧ o.isCells = false) : FA base seed A pre x B W' :=
  ⟨h.1.far hg hr, h.2.1.far hg hr, h.2.2⟩
end Go.Proofs.Ytchmcjimnliodaa
