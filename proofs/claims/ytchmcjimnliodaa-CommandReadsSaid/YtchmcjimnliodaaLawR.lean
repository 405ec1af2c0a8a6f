/- Records that came in, and small words for rows. No program in sight. -/
import Derived.Test.YtchmcjimnliodaaFrameU
import Derived.Test.YtchmcjimnliodaaOctW
namespace Go.Proofs.Ytchmcjimnliodaa
open Go.RowKit

/-- A record, and where its bytes lie. -/
structure RecAt where
  r : Rec
  a : Option Addr
  cap : Nat
def RecAt.cells (x : RecAt) : List Value := [.int .u8 x.r.k.toNat, .slice x.a x.r.d.length x.cap]
/-- The records `xs` lie from `a` on, and each one's bytes where it says. -/
def Recs (w : World) (a : Option Addr) (xs : List RecAt) : Prop := Lies w a (xs.flatMap RecAt.cells) ∧ ∀ x ∈ xs, Lies w x.a (ub x.r.d)
theorem flat_at (xs : List RecAt) : ∀ (i : Nat) (h : i < xs.length), (xs.flatMap RecAt.cells)[i * 2]? = some (.int .u8 (xs[i]).r.k.toNat) ∧ (xs.flatMap RecAt.cells)[i * 2 + 1]? = some (.slice (xs[i]).a (xs[i]).r.d.length (xs[i]).cap) := by
  induction xs with
  | nil => intro i h; simp at h
  | cons x xs ih =>
    intro i h
    cases i with
    | zero => simp [RecAt.cells]
    | succ i =>
      have := ih i (by simpa using h)
      simp only [List.flatMap_cons, RecAt.cells, Nat.add_mul, List.getElem_cons_succ]
      rw [List.getElem?_append_right (by simp), List.getElem?_append_right (by simp)]
      simpa using this
theorem Recs.pure {w w' : World} {a : Option Addr} {xs : List RecAt} (h : Recs w a xs) (hp : Pure w w') : Recs w' a xs := ⟨h.1.pure hp, fun x hx => (h.2 x hx).pure hp⟩
theorem Recs.addr {w : World} {a : Option Addr} {xs : List RecAt} (h : Recs w a xs) {i : Nat} (hi : i < xs.length) : ∃ b o, a = some ⟨b, o, none⟩ ∧ b < w.heap.size := by
  obtain ⟨h0, _⟩ := flat_at xs i hi
  obtain ⟨b, o, rfl, hc⟩ := h.1 _ _ h0
  exact ⟨b, o, rfl, World.block_lt_of_cell? w ⟨b, o + i * 2, none⟩ hc⟩
theorem Recs.cells {w : World} {b o : Nat} {xs : List RecAt} (h : Recs w (some ⟨b, o, none⟩) xs) {i : Nat} (hi : i < xs.length) :
    w.cell? ⟨b, o + i * 2, none⟩ = some (.int .u8 (xs[i]).r.k.toNat) ∧ w.cell? ⟨b, o + i * 2 + 1, none⟩ = some (.slice (xs[i]).a (xs[i]).r.d.length (xs[i]).cap) := by
  obtain ⟨h0, h1⟩ := flat_at xs i hi
  exact ⟨h.1.at h0, h.1.at h1⟩
/-- Rows of two types are two rows. -/
theorem Row.ne_row {w : World} {e e' size size' : TypeId} {a a' : Option Addr} {n n' cap cap' : Nat} {xs xs' : List Value} (h : Row w e size a n cap xs) (h' : Row w e' size' a' n' cap' xs') (hT : e ≠ e') :
    ∀ b, ablk a = some b → ablk a' ≠ some b := by
  intro b hb hb'
  rcases h.2.2.2 with ⟨rfl, _⟩ | ⟨g, cur, rfl, hg, _⟩
  · simp [ablk] at hb
  · rcases h'.2.2.2 with ⟨rfl, _⟩ | ⟨g', cur', rfl, hg', _⟩
    · simp [ablk] at hb'
    · simp [ablk] at hb hb'
      subst hb; subst hb'
      rw [hg] at hg'; injection hg' with hg'; injection hg' with _ hh _
      exact hT hh
/-- Numbers as cells. -/
def ints (l : List Nat) : List Value := l.map fun n : Nat => Value.int .i64 (n : Int)
theorem ints_length (l : List Nat) : (ints l).length = l.length := by simp [ints]
theorem ints_append (l k : List Nat) : ints (l ++ k) = ints l ++ ints k := by simp [ints]
theorem ints_one (l : List Nat) : ∀ u ∈ ints l, u.oneCell' = true := by
  intro u hu; obtain ⟨_, _, rfl⟩ := List.mem_map.1 hu; rfl
theorem ints_at {l : List Nat} {j n : Nat} (h : l[j]? = some n) : (ints l)[j]? = some (.int .i64 n) := by simp [ints, h]
/-- Where the first `k` records begin. -/
def heads (s : BitVec 32) (l : List Rec) (k : Nat) : List Nat := (List.range k).map (pos s l)
theorem heads_length (s : BitVec 32) (l : List Rec) (k : Nat) : (heads s l k).length = k := by simp [heads]
theorem heads_succ (s : BitVec 32) (l : List Rec) (k : Nat) : heads s l (k + 1) = heads s l k ++ [pos s l k] := by simp [heads, List.range_succ]
theorem heads_at (s : BitVec 32) (l : List Rec) {k j : Nat} (h : j < k) : (heads s l k)[j]? = some (pos s l j) := by simp [heads, h]
end Go.Proofs.Ytchmcjimnliodaa
