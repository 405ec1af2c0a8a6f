/- Words of memory that all of this seat's proofs use: which blocks a call may have changed; blocks known whole; rows of cells that are read; rows that are appended to. No program in sight. -/
import Derived.WalkKit
import Derived.Deep.AppendSrc
import Derived.Maps.AppendAt
import Derived.Deep.Draws
import Derived.Lib.ConvBytes
import Derived.Laws.BytesString
namespace Go.Proofs.YtipeanblfjimdaaDoor
open Go.RowKit

/-- Of the blocks that were there only those in `S` may have changed; new ones may have come. -/
structure Only (S : Nat → Prop) (w w' : World) : Prop where
  os : w'.os = w.os
  tape : w'.tape = w.tape
  output : w'.output = w.output
  size : w.heap.size ≤ w'.heap.size
  block : ∀ k, k < w.heap.size → ¬ S k → w'.heap[k]? = w.heap[k]?

section only
variable {S S' : Nat → Prop} {w w1 w' : World}
theorem Only.refl (S : Nat → Prop) (w : World) : Only S w w := ⟨rfl, rfl, rfl, Nat.le_refl _, fun _ _ _ => rfl⟩
theorem Only.trans (h : Only S w w1) (k : Only S' w1 w') (hs : ∀ i, i < w.heap.size → S' i → S i) : Only S w w' :=
  ⟨k.os.trans h.os, k.tape.trans h.tape, k.output.trans h.output, Nat.le_trans h.size k.size,
    fun i hi hn => (k.block i (Nat.lt_of_lt_of_le hi h.size) (fun hx => hn (hs i hi hx))).trans (h.block i hi hn)⟩
theorem Only.mono (h : Only S w w') (hs : ∀ i, i < w.heap.size → S i → S' i) : Only S' w w' :=
  ⟨h.os, h.tape, h.output, h.size, fun i hi hn => h.block i hi (fun hx => hn (hs i hi hx))⟩
theorem Only.alloc (h : Only S w w') (o : Obj) : Only S w (w'.alloc o) :=
  ⟨h.os, h.tape, h.output, Nat.le_trans h.size (by simp), fun i hi hn => (Below.heap_alloc w' o i (Nat.lt_of_lt_of_le hi h.size)).trans (h.block i hi hn)⟩
theorem Only.drew (h : Only S w w') : Only S w w'.drew := ⟨h.os, h.tape, h.output, h.size, h.block⟩
theorem Only.drewN (h : Only S w w') (n : Nat) : Only S w (w'.drewN n) := ⟨h.os, h.tape, h.output, h.size, h.block⟩
theorem Only.setCell (h : Only S w w') {a : Addr} (ha : a.block < w.heap.size → S a.block) (v : Value) : Only S w (w'.setCell a v) :=
  ⟨h.os, h.tape, h.output, by simpa [World.setCell] using h.size, fun i hi hn => (Below.heap_setCell w' a v i (fun e => by subst e; exact hn (ha hi))).trans (h.block i hi hn)⟩
theorem Only.of_grownBy {row : Option Nat} (h : w.grownBy w' row) : Only (fun k => row = some k) w w' :=
  ⟨h.os, h.tape, h.output, h.size, fun k hk hn => h.block k hk (fun e => hn e.symm)⟩
theorem Only.of_below (h : Below w.heap.size w w') : Only S w w' := ⟨h.os, h.tape, h.output, h.size, fun k hk _ => h.block k hk⟩
theorem Only.below (h : Only S w w') {B : Nat} (hB : B ≤ w.heap.size) (hs : ∀ k, k < B → ¬ S k) : Below B w w' :=
  ⟨h.os, h.tape, h.output, h.size, fun k hk => h.block k (Nat.lt_of_lt_of_le hk hB) (hs k hk)⟩
theorem Only.cell (h : Only S w w') {a : Addr} {v : Value} (hc : w.cell? a = some v) (hn : ¬ S a.block) : w'.cell? a = some v :=
  (World.cell?_of_block (h.block a.block (World.block_lt_of_cell? w a hc) hn)).trans hc
end only

/-- The walk stands still here. -/
def Stop (p : Prop) : Prop := p
theorem Stop.in {p : Prop} (h : Stop p) : p := h
theorem Stop.out {p : Prop} (h : p) : Stop p := h

/-- Nothing that was there has changed. -/
abbrev Pure (w w' : World) : Prop := Only (fun _ => False) w w'

/-! ### Blocks known whole -/
/-- Block `B` is the row `cs` of elements of type `T`, none of them frozen. -/
def Blk (w : World) (B : Nat) (cs : Array Value) (T : TypeId) : Prop := w.heap[B]? = some (.cells cs T (0, 0))
section blk
variable {w w' : World} {B : Nat} {cs : Array Value} {T : TypeId}
theorem Blk.lt (h : Blk w B cs T) : B < w.heap.size := (Array.getElem?_eq_some_iff.1 h).1
theorem Blk.cell (h : Blk w B cs T) {i : Nat} {v : Value} (hv : cs[i]? = some v) : w.cell? ⟨B, i, none⟩ = some v := by
  rw [cell_of_row w B i cs T (0, 0) h]; exact hv
theorem Blk.frozen (h : Blk w B cs T) (i : Nat) : w.frozen? ⟨B, i, none⟩ = false := by
  simp only [World.frozen?, show w.heap[B]? = some (.cells cs T (0, 0)) from h]; simp
theorem Blk.set (h : Blk w B cs T) (i : Nat) (v : Value) : Blk (w.setCell ⟨B, i, none⟩ v) B (cs.setIfInBounds i v) T := by
  have h' : w.heap[B]? = some (.cells cs T (0, 0)) := h
  show (w.heap.modify B _)[B]? = _
  rw [Array.getElem?_modify, if_pos rfl, h']; rfl
theorem Blk.set_ne (h : Blk w B cs T) {a : Addr} (hn : B ≠ a.block) (v : Value) : Blk (w.setCell a v) B cs T :=
  (Below.heap_setCell w a v B hn).trans h
theorem Blk.alloc (h : Blk w B cs T) (o : Obj) : Blk (w.alloc o) B cs T := (Below.heap_alloc w o B h.lt).trans h
theorem Blk.new (w : World) (cs : Array Value) (T : TypeId) : Blk (w.alloc (.cells cs T)) w.heap.size cs T := heap_alloc_new w _
theorem Blk.drew (h : Blk w B cs T) : Blk w.drew B cs T := h
theorem Blk.only {S : Nat → Prop} (h : Blk w B cs T) (ho : Only S w w') (hn : ¬ S B) : Blk w' B cs T := (ho.block B h.lt hn).trans h
theorem Blk.inj {cs' : Array Value} {T' : TypeId} (h : Blk w B cs T) (h' : Blk w B cs' T') : cs = cs' ∧ T = T' := by
  have := (show w.heap[B]? = some (.cells cs T (0, 0)) from h).symm.trans h'
  injection this with this; injection this with a b c; exact ⟨a, b⟩
theorem Blk.ne {B' : Nat} {cs' : Array Value} {T' : TypeId} (h : Blk w B cs T) (h' : Blk w B' cs' T') (hT : T ≠ T') : B ≠ B' := by
  intro e; subst e; exact hT (h.inj h').2
end blk

/-! ### Cells that are read behind an address -/
def ablk (a : Option Addr) : Option Nat := a.map (·.block)
theorem ablk_add (a : Option Addr) (n : Nat) : ablk (a.map (·.add n)) = ablk a := by
  cases a with
  | none => rfl
  | some a => simp only [ablk, Option.map_some, Addr.add]; split <;> rfl
/-- The cells `xs` lie from the address `a` on. -/
def Lies (w : World) (a : Option Addr) (xs : List Value) : Prop :=
  ∀ j u, xs[j]? = some u → ∃ b o, a = some ⟨b, o, none⟩ ∧ w.cell? ⟨b, o + j, none⟩ = some u
section lies
variable {w w' : World} {a : Option Addr} {xs ys : List Value}
theorem Lies.nil (w : World) (a : Option Addr) : Lies w a [] := fun j u h => by simp at h
theorem Lies.addr (h : Lies w a xs) (hx : xs ≠ []) : ∃ b o, a = some ⟨b, o, none⟩ ∧ b < w.heap.size ∧ ∀ j u, xs[j]? = some u → w.cell? ⟨b, o + j, none⟩ = some u := by
  cases xs with
  | nil => exact absurd rfl hx
  | cons x xs =>
    obtain ⟨b, o, rfl, hc⟩ := h 0 x rfl
    refine ⟨b, o, rfl, World.block_lt_of_cell? w ⟨b, o + 0, none⟩ hc, fun j u hj => ?_⟩
    obtain ⟨b', o', e, hc'⟩ := h j u hj
    injection e with e; injection e with e1 e2 e3; subst e1; subst e2
    exact hc'
theorem Lies.of_addr {b o : Nat} (h : ∀ j u, xs[j]? = some u → w.cell? ⟨b, o + j, none⟩ = some u) : Lies w (some ⟨b, o, none⟩) xs :=
  fun j u hj => ⟨b, o, rfl, h j u hj⟩
theorem Lies.at {b o : Nat} (h : Lies w (some ⟨b, o, none⟩) xs) {j : Nat} {u : Value} (hj : xs[j]? = some u) : w.cell? ⟨b, o + j, none⟩ = some u := by
  obtain ⟨b', o', e, hc⟩ := h j u hj
  injection e with e; injection e with e1 e2 e3; subst e1; subst e2
  exact hc
theorem Lies.keep (h : Lies w a xs) (hk : ∀ b, ablk a = some b → b < w.heap.size → w'.heap[b]? = w.heap[b]?) : Lies w' a xs := by
  intro j u hj
  obtain ⟨b, o, rfl, hc⟩ := h j u hj
  exact ⟨b, o, rfl, (World.cell?_of_block (a := ⟨b, o + j, none⟩) (hk b rfl (World.block_lt_of_cell? w _ hc))).trans hc⟩
theorem Lies.only {S : Nat → Prop} (h : Lies w a xs) (ho : Only S w w') (hn : ∀ b, ablk a = some b → ¬ S b) : Lies w' a xs :=
  h.keep fun b hb hl => ho.block b hl (hn b hb)
theorem Lies.pure (h : Lies w a xs) (ho : Pure w w') : Lies w' a xs := h.only ho fun _ _ => id
theorem Lies.alloc (h : Lies w a xs) (o : Obj) : Lies (w.alloc o) a xs := h.keep fun b _ hl => Below.heap_alloc w o b hl
theorem Lies.drew (h : Lies w a xs) : Lies w.drew a xs := h.keep fun _ _ _ => rfl
theorem Lies.setCell (h : Lies w a xs) {p : Addr} (hn : ablk a ≠ some p.block) (v : Value) : Lies (w.setCell p v) a xs :=
  h.keep fun b hb _ => Below.heap_setCell w p v b (fun e => hn (by rw [hb, e]))
theorem Blk.lies {B : Nat} {cs : Array Value} {T : TypeId} (h : Blk w B cs T) : Lies w (some ⟨B, 0, none⟩) cs.toList :=
  Lies.of_addr fun j u hj => h.cell (i := 0 + j) (by simpa using hj)
theorem Blk.new' {B : Nat} (hB : B = w.heap.size) (cs : Array Value) (T : TypeId) : Blk (w.alloc (.cells cs T)) B cs T := by subst hB; exact Blk.new w cs T
/-- A beginning of what lies there. -/
theorem Lies.left (h : Lies w a (xs ++ ys)) : Lies w a xs := fun j u hj => h j u (by
  rw [List.getElem?_append_left (by exact (List.getElem?_eq_some_iff.1 hj).1)]; exact hj)
theorem Lies.take (h : Lies w a xs) (n : Nat) : Lies w a (xs.take n) := fun j u hj => h j u (by
  rw [List.getElem?_take] at hj; split at hj <;> simp_all)
/-- The rest of what lies there, from the address behind. -/
theorem Lies.drop (h : Lies w a xs) (n : Nat) : Lies w (a.map (·.add n)) (xs.drop n) := by
  intro j u hj
  rw [List.getElem?_drop] at hj
  obtain ⟨b, o, rfl, hc⟩ := h (n + j) u hj
  refine ⟨b, o + n, ?_, by rw [Nat.add_assoc]; exact hc⟩
  simp only [Option.map_some, Addr.add]; split <;> simp_all
theorem Lies.dropAt {b o : Nat} (h : Lies w (some ⟨b, o, none⟩) xs) (n : Nat) : Lies w (some ⟨b, o + n, none⟩) (xs.drop n) := by
  intro j u hj
  rw [List.getElem?_drop] at hj
  obtain ⟨b', o', e, hc⟩ := h (n + j) u hj
  injection e with e; injection e with e1 e2; subst e1; subst e2
  exact ⟨b, o + n, rfl, by rw [Nat.add_assoc]; exact hc⟩
end lies

/-! ### A row of the call's own, that is appended to -/
/-- The slice `a, n, cap` holds the cells `xs` at the head of a block of its own, whole cells of `size` each; or it is nil. -/
def Row (w : World) (e : TypeId) (size : Nat) (a : Option Addr) (n cap : Nat) (xs : List Value) : Prop :=
  xs.length = n * size ∧ n ≤ cap ∧ cap ≤ maxLen ∧
  ((a = none ∧ n = 0 ∧ cap = 0) ∨ ∃ g cur, a = some ⟨g, 0, none⟩ ∧ w.heap[g]? = some (.cells cur e (0, 0)) ∧ cur.size = cap * size ∧ cur.toList.take (n * size) = xs)
section row
variable {w w' : World} {e : TypeId} {size : Nat} {a : Option Addr} {n cap : Nat} {xs : List Value}
theorem Row.nil (w : World) (e : TypeId) (size : Nat) : Row w e size none 0 0 [] := ⟨by simp, Nat.le_refl _, Nat.zero_le _, .inl ⟨rfl, rfl, rfl⟩⟩
theorem Row.len (h : Row w e size a n cap xs) : xs.length = n * size := h.1
theorem Row.owns (h : Row w e size a n cap xs) : w.ownsRow 0 e size (.slice a n cap) n xs := by
  obtain ⟨h1, h2, h3, h4⟩ := h
  refine ⟨h1, ?_⟩
  rcases h4 with ⟨rfl, rfl, rfl⟩ | ⟨g, cur, rfl, hg, hs, ht⟩
  · exact .inl ⟨rfl, rfl⟩
  · exact .inr ⟨g, cap, cur, rfl, Nat.zero_le _, hg, h2, h3, hs, ht⟩
theorem Row.of_owns {v : Value} (h : w.ownsRow 0 e size v n xs) : ∃ a cap, v = .slice a n cap ∧ Row w e size a n cap xs := by
  obtain ⟨h1, h2⟩ := h
  rcases h2 with ⟨rfl, rfl⟩ | ⟨g, cap, cur, rfl, _, hg, hn, hc, hs, ht⟩
  · exact ⟨none, 0, rfl, h1, Nat.le_refl _, Nat.zero_le _, .inl ⟨rfl, rfl, rfl⟩⟩
  · exact ⟨_, cap, rfl, h1, hn, hc, .inr ⟨g, cur, rfl, hg, hs, ht⟩⟩
theorem Row.lt (h : Row w e size a n cap xs) : ∀ k, ablk a = some k → k < w.heap.size := by
  intro k hk
  rcases h.2.2.2 with ⟨rfl, _⟩ | ⟨g, cur, rfl, hg, _⟩
  · simp [ablk] at hk
  · simp [ablk] at hk; subst hk; exact (Array.getElem?_eq_some_iff.1 hg).1
theorem Row.lies (h : Row w e size a n cap xs) : Lies w a xs := by
  intro j u hj
  rcases h.2.2.2 with ⟨rfl, rfl, _⟩ | ⟨g, cur, rfl, hg, hs, ht⟩
  · have := h.1; simp at this; subst this; simp at hj
  · refine ⟨g, 0, rfl, ?_⟩
    rw [cell_of_row w g (0 + j) cur e (0, 0) hg, Nat.zero_add]
    rw [← ht, List.getElem?_take] at hj
    split at hj
    · simpa using hj
    · cases hj
theorem Row.keep (h : Row w e size a n cap xs) (hk : ∀ b, ablk a = some b → b < w.heap.size → w'.heap[b]? = w.heap[b]?) : Row w' e size a n cap xs := by
  have hl := h.lt
  obtain ⟨h1, h2, h3, h4⟩ := h
  refine ⟨h1, h2, h3, ?_⟩
  rcases h4 with h4 | ⟨g, cur, rfl, hg, hr⟩
  · exact .inl h4
  · exact .inr ⟨g, cur, rfl, (hk g rfl (hl g rfl)).trans hg, hr⟩
theorem Row.only {S : Nat → Prop} (h : Row w e size a n cap xs) (ho : Only S w w') (hn : ∀ b, ablk a = some b → ¬ S b) : Row w' e size a n cap xs :=
  h.keep fun b hb hl => ho.block b hl (hn b hb)
theorem Row.alloc (h : Row w e size a n cap xs) (o : Obj) : Row (w.alloc o) e size a n cap xs := h.keep fun b _ hl => Below.heap_alloc w o b hl
theorem Row.drew (h : Row w e size a n cap xs) : Row w.drew e size a n cap xs := h.keep fun _ _ _ => rfl
theorem Row.setCell (h : Row w e size a n cap xs) {p : Addr} (hn : ablk a ≠ some p.block) (v : Value) : Row (w.setCell p v) e size a n cap xs :=
  h.keep fun b hb _ => Below.heap_setCell w p v b (fun e => hn (by rw [hb, e]))
/-- A row is no block of another type. -/
theorem Row.ne_blk {B : Nat} {cs : Array Value} {T : TypeId} (h : Row w e size a n cap xs) (hB : Blk w B cs T) (hT : T ≠ e) : ablk a ≠ some B := by
  rcases h.2.2.2 with ⟨rfl, _⟩ | ⟨g, cur, rfl, hg, _⟩
  · simp [ablk]
  · intro hb
    simp [ablk] at hb; subst hb
    have h2 := (show w.heap[g]? = some (.cells cs T (0, 0)) from hB)
    rw [hg] at h2; injection h2 with h2; injection h2 with _ h2; exact hT h2.symm
/-- A block just made is a row. -/
theorem Row.of_blk {B : Nat} {cs : Array Value} (hB : Blk w B cs e) (hs : cs.size = n * size) (hn : n ≤ maxLen) : Row w e size (some ⟨B, 0, none⟩) n n cs.toList :=
  ⟨by simp [hs], Nat.le_refl _, hn, .inr ⟨B, cs, rfl, hB, hs, by rw [List.take_of_length_le (by simp [hs])]⟩⟩
end row

/-- What is appended: cells that lie somewhere. -/
theorem src_lies {P : Program} {w : World} {size : Nat} {tx e' : TypeId} (hk : P.underlying tx = some (.slice e')) {a : Option Addr} {n c : Nat} {xs : List Value} (hs : 0 < size)
    (hl : xs.length = n * size) (h : Lies w a xs) (h1 : ∀ u ∈ xs, u.oneCell' = true) : Src P size tx (.slice a n c) n xs w := by
  have add_eq : ∀ (b o j : Nat), (⟨b, o, none⟩ : Addr).add j = ⟨b, o + j, none⟩ := by
    intro b o j; unfold Addr.add; split <;> simp_all
  by_cases hx : xs = []
  · subst hx
    have hn : n = 0 := by
      rcases Nat.eq_zero_or_pos n with h0 | h0
      · exact h0
      · have := Nat.mul_pos h0 hs; simp at hl; omega
    subst hn
    cases a with
    | none => exact Src.ofNil w hk c
    | some ad => exact Src.ofSlice w hk ad 0 c [] (by simp) (by simp) (by simp)
  · obtain ⟨b, o, rfl, _, hc⟩ := h.addr hx
    exact Src.ofSlice w hk ⟨b, o, none⟩ n c xs hl (fun j u hj => by rw [add_eq]; exact hc j u hj) h1

section append
variable {P : Program} (w : World)
/-- append onto a row of the call's own: where the new one lies, and what it holds. -/
theorem run_append_row (t tx ty e : TypeId) (i : TypeInfo) (z : Value) (size bytes : Nat) (ht : P.underlying t = some (.slice e)) (hi : P.info? e = some i) (hz : i.zero = some z)
    (hsize : i.size = size) (hby : i.bytes = bytes) (hzs : z.cells.size = size) (hsz : 0 < size)
    (a : Option Addr) (n cap : Nat) (xs : List Value) (hrow : Row w e size a n cap xs)
    (x : Value) (m : Nat) (news : List Value) (hs : Src P size tx x m news w) (h63 : n + m ≤ maxLen) (hbytes : (n + m) * bytes ≤ 140737488355328) :
    ∃ a' cap' w', (Builtin.append_ #[t, tx] ty #[.slice a n cap, x]).run P w = .ok (.slice a' (n + m) cap') w' ∧ Row w' e size a' (n + m) cap' (xs ++ news) ∧
      Only (fun k => ablk a = some k) w w' ∧ (ablk a' = ablk a ∨ ablk a' = some w.heap.size) := by
  subst hsize
  subst hby
  have hsmall : n + m ≤ 9223372036854775807 := by simp only [maxLen] at h63; omega
  have hlen : (xs ++ news).length = (n + m) * i.size := by rw [List.length_append, hrow.1, hs.newsLen, Nat.add_mul]
  by_cases hroom : n + m ≤ cap
  · rcases hrow.2.2.2 with ⟨rfl, rfl, rfl⟩ | ⟨g, cur, rfl, hg, hcs, htake⟩
    · have hm : m = 0 := by omega
      subst hm
      have hnews : news = [] := List.eq_nil_of_length_eq_zero (by simpa using hs.newsLen)
      have hx : xs = [] := List.eq_nil_of_length_eq_zero (by simpa using hrow.1)
      subst hnews; subst hx
      refine ⟨none, 0, w, ?_, Row.nil _ _ _, Only.refl _ _, .inl rfl⟩
      rcases hs.kind with ⟨e', hk⟩ | hk <;>
        simp [Builtin.append_, run_underlying ht, run_underlying hk, sizeOf, typeInfo, hi, hs.len, hs.cells]
    · have hcap : (n + m) * i.size ≤ cap * i.size := Nat.mul_le_mul_right _ hroom
      have hfit : n * i.size + news.length ≤ cur.size := by rw [hs.newsLen, hcs, ← Nat.add_mul]; exact hcap
      have hr := run_storeCells_at P g (n * i.size) e news 0 cur w hg (by simpa using hfit) hs.one
      simp only [Nat.add_zero] at hr
      refine ⟨some ⟨g, 0, none⟩, cap, w.setRow g (cur.toList.take (n * i.size) ++ news ++ cur.toList.drop (n * i.size + news.length)).toArray, ?_,
        ⟨hlen, hroom, hrow.2.2.1, .inr ⟨g, _, rfl, setRow_heap w g cur _ e _ hg, ?_, ?_⟩⟩, ⟨rfl, rfl, rfl, by simp [World.setRow], fun k _ hk => setRow_other w g k _ (fun e => hk (by simp [ablk, e]))⟩, .inl rfl⟩
      · rcases hs.kind with ⟨e', hk⟩ | hk <;>
          simp [Builtin.append_, run_underlying ht, run_underlying hk, sizeOf, typeInfo, hi, hs.len, hroom, hs.cells, Addr.add_lit, hr]
      · simp only [List.size_toArray, List.length_append, List.length_take, List.length_drop, Array.length_toList]
        omega
      · rw [htake, ← hlen]
        exact List.take_left
  · have hold : (Builtin.firstCells i.size n (.slice a n cap)).run P w.drew = .ok xs.toArray w.drew := by
      rcases hrow.2.2.2 with ⟨rfl, rfl, rfl⟩ | ⟨g, cur, rfl, hg, hcs, htake⟩
      · have hx : xs = [] := List.eq_nil_of_length_eq_zero (by simpa using hrow.1)
        subst hx
        exact run_firstCells_none w.drew i.size 0 0 0
      · exact run_firstCells_some w.drew i.size n ⟨g, 0, none⟩ n cap xs hrow.1 (fun j u hj => by
          have := hrow.lies.at hj
          rw [show (⟨g, 0, none⟩ : Addr).add j = ⟨g, 0 + j, none⟩ from by unfold Addr.add; split <;> simp_all]
          simpa using this)
    have hr := run_append_grow_src (P := P) w t tx ty e i z ht hi hz a n cap xs hold x m news hs (by omega) (by omega) (growslice_fits (by omega) hbytes)
    have hge := grownCap_ge w (n + m) cap e
    refine ⟨_, _, _, hr, ⟨hlen, hge, grownCap_le_maxLen w (n + m) cap e h63, .inr ⟨w.heap.size, _, rfl, heap_alloc_new w.drew _, ?_, ?_⟩⟩,
      ⟨rfl, rfl, rfl, by simp, fun k hk _ => Below.heap_alloc w.drew _ k hk⟩, .inr rfl⟩
    · simp only [Array.size_append, List.size_toArray, size_zeroCells, hzs, hlen, ← Nat.add_mul]
      congr 1
      omega
    · simp only [Array.toList_append]
      rw [← hlen]
      exact List.take_left

/-- At the walk's operation. -/
theorem wpList_append_row {ops : Array Oper} {rest : List Oper} {o : Oper} {ac : Act} {Q : Exit → Act → World → Prop} (hgd : o.guard = none) (s x : Operand) (t tx : TypeId)
    (ho : o.op = .call { callee := .builtin .append, args := #[s, x], argTypes := #[t, tx] })
    (e : TypeId) (i : TypeInfo) (z : Value) (size bytes : Nat) (ht : P.underlying t = some (.slice e)) (hi : P.info? e = some i) (hz : i.zero = some z)
    (hsize : i.size = size) (hby : i.bytes = bytes) (hzs : z.cells.size = size) (hsz : 0 < size)
    (a : Option Addr) (n cap : Nat) (xs : List Value) (hv : ac.eval s = .slice a n cap) (hrow : Row w e size a n cap xs)
    (xv : Value) (m : Nat) (news : List Value) (hx : ac.eval x = xv) (hs : Src P size tx xv m news w) (h63 : n + m ≤ maxLen) (hbytes : (n + m) * bytes ≤ 140737488355328)
    (h : ∀ a' cap' w', Row w' e size a' (n + m) cap' (xs ++ news) → Only (fun k => ablk a = some k) w w' → (ablk a' = ablk a ∨ ablk a' = some w.heap.size) →
      wpList P ops Q rest (ac.put o.dst (.slice a' (n + m) cap')) w') : wpList P ops Q (o :: rest) ac w :=
  wpList_plain hgd fun K hK => by
    obtain ⟨a', cap', w', hr, h2, h3, h4⟩ := run_append_row (P := P) w t tx o.type e i z size bytes ht hi hz hsize hby hzs hsz a n cap xs hrow xv m news hs h63 hbytes
    unfold Oper.wp execOp
    simp only [ho, resolve, invoke, builtin, Sem.run_bind, Sem.run_pure, Result.andThen_ok, List.map_toArray, List.map_cons, List.map_nil, hv, hx, hr]
    exact hK _ _ (h a' cap' w' h2 h3 h4)
end append

/-- What the program's tables say of a slice type and its elements. -/
def ElemT (P : Program) (t e : TypeId) (size bytes : Nat) : Prop :=
  P.underlying t = some (.slice e) ∧ 0 < size ∧ ∃ i z, P.info? e = some i ∧ i.zero = some z ∧ i.size = size ∧ i.bytes = bytes ∧ z.cells.size = size
theorem ElemT.mk {P : Program} {t e : TypeId} {size bytes : Nat} {z : Value} (ht : P.underlying t = some (.slice e)) (h : (P.info? e).map (fun i => (i.zero, i.size, i.bytes)) = some (some z, size, bytes))
    (hz : z.cells.size = size) (h0 : 0 < size) : ElemT P t e size bytes := by
  obtain ⟨i, hi, h1, h2, h3⟩ := info_parts h
  exact ⟨ht, h0, i, z, hi, h1, h2, h3, hz⟩
section append2
variable {P : Program} (w : World)
/-- append of cells that lie somewhere, onto a row of the call's own. -/
theorem wpList_app {ops : Array Oper} {rest : List Oper} {o : Oper} {ac : Act} {Q : Exit → Act → World → Prop} (hgd : o.guard = none) (s x : Operand) {t e : TypeId} {size bytes : Nat}
    (ho : o.op = .call { callee := .builtin .append, args := #[s, x], argTypes := #[t, t] }) (he : ElemT P t e size bytes)
    (a : Option Addr) (n cap : Nat) (xs : List Value) (hv : ac.eval s = .slice a n cap) (hrow : Row w e size a n cap xs)
    (b : Option Addr) (m c : Nat) (ys : List Value) (hx : ac.eval x = .slice b m c) (hl : Lies w b ys) (hm : ys.length = m * size) (h1 : ∀ u ∈ ys, u.oneCell' = true)
    (h63 : n + m ≤ maxLen) (hbytes : (n + m) * bytes ≤ 140737488355328)
    (h : ∀ a' cap' w', Row w' e size a' (n + m) cap' (xs ++ ys) → Only (fun k => ablk a = some k) w w' → (ablk a' = ablk a ∨ ablk a' = some w.heap.size) →
      wpList P ops Q rest (ac.put o.dst (.slice a' (n + m) cap')) w') : wpList P ops Q (o :: rest) ac w := by
  obtain ⟨ht, h0, i, z, hi, hz, hsize, hby, hzs⟩ := he
  exact wpList_append_row w hgd s x t t ho e i z size bytes ht hi hz hsize hby hzs h0 a n cap xs hv hrow _ m ys hx (src_lies ht h0 hm hl h1) h63 hbytes h
end append2

/-! ### Bytes -/
/-- Bytes as cells. -/
def ub (l : List UInt8) : List Value := l.map fun b => Value.int .u8 b.toNat
theorem ub_length (l : List UInt8) : (ub l).length = l.length := by simp [ub]
theorem ub_append (l k : List UInt8) : ub (l ++ k) = ub l ++ ub k := by simp [ub]
theorem ub_one (l : List UInt8) : ∀ u ∈ ub l, u.oneCell' = true := by
  intro u hu; obtain ⟨_, _, rfl⟩ := List.mem_map.1 hu; rfl
theorem ub_at {l : List UInt8} {j : Nat} (h : j < l.length) : (ub l)[j]? = some (.int .u8 (l[j]).toNat) := by simp [ub, h]
theorem ub_take (l : List UInt8) (n : Nat) : ub (l.take n) = (ub l).take n := by simp [ub, List.map_take]
theorem ub_drop (l : List UInt8) (n : Nat) : ub (l.drop n) = (ub l).drop n := by simp [ub, List.map_drop]
theorem ub_inj {l k : List UInt8} (h : ub l = ub k) : l = k := by
  induction l generalizing k with
  | nil => cases k with
    | nil => rfl
    | cons _ _ => simp [ub] at h
  | cons x l ih => cases k with
    | nil => simp [ub] at h
    | cons y k =>
      simp only [ub, List.map_cons, List.cons.injEq, Value.int.injEq, true_and] at h
      obtain ⟨h1, h2⟩ := h
      rw [ih (show ub l = ub k from h2)]
      congr 1
      exact UInt8.toNat_inj.1 (by omega)
/-- A new row of these cells has been made, and given back; nothing else has changed. -/
structure Made (w w' : World) (e : TypeId) (size n : Nat) (xs : List Value) (isnil : Prop) (r : Ending) : Prop where
  ex : ∃ a cap, r = .returned (.slice a n cap) ∧ Row w' e size a n cap xs ∧ (a = none ↔ isnil) ∧ ∀ k, ablk a = some k → w.heap.size ≤ k
  only : Pure w w'
section conv
variable {P : Program} (w : World)
/-- 'string(b)'. -/
theorem run_conv_string (src dst e : TypeId) (hs : P.underlying src = some (.slice e)) (he : P.underlying e = some (.int .u8)) (hd : P.underlying dst = some .string)
    (a : Option Addr) (n cap : Nat) (bs : List UInt8) (hn : bs.length = n) (hl : Lies w a (ub bs)) : (convert src dst (.slice a n cap)).run P w = .ok (.string ⟨⟨bs⟩⟩) w := by
  rw [run_convert_bytes_string w src dst e a n cap hs he hd]
  have fold : ∀ (l : List UInt8) (s : ByteArray), (l.map fun b => (b.toNat : Int)).foldl (fun r n => r.push (UInt8.ofNat n.toNat)) s = ⟨⟨s.data.toList ++ l⟩⟩ := by
    intro l
    induction l with
    | nil => intro s; simp
    | cons x l ih =>
      intro s
      simp only [List.map_cons, List.foldl_cons]
      rw [ih]
      simp
  cases a with
  | none =>
    have : bs = [] := by
      cases bs with
      | nil => rfl
      | cons x bs => obtain ⟨b, o, h, _⟩ := hl 0 _ rfl; cases h
    subst this
    rfl
  | some ad =>
    have hc := run_firstCells_some (P := P) w 1 n ad n cap (ub bs) (by rw [ub_length]; omega) (fun j u hj => by
      obtain ⟨b, o, e, hc⟩ := hl j u hj
      injection e with e; subst e
      rw [show (⟨b, o, none⟩ : Addr).add j = ⟨b, o + j, none⟩ from by unfold Addr.add; split <;> simp_all]
      exact hc)
    have hc' : (loadCells ad n).run P w = .ok ((bs.map fun b => (b.toNat : Int)).map (Value.int .u8)).toArray w := by
      have e : (bs.map fun b => (b.toNat : Int)).map (Value.int .u8) = ub bs := by simp [ub]
      rw [e]
      simpa [Builtin.firstCells] using hc
    rw [run_bytesToString w ad n cap _ hc', fold]
    simp
/-- '[]byte(s)': the world behind it. -/
theorem bytesWorld_only (e : TypeId) (s : ByteArray) : Pure w (Lib.bytesWorld w e s) :=
  ⟨by simp [Lib.bytesWorld, World.freeze, World.alloc, World.drew, -World.alloc_eq, -World.drew_eq], by simp [Lib.bytesWorld, World.freeze, World.alloc, World.drew, -World.alloc_eq, -World.drew_eq],
    by simp [Lib.bytesWorld, World.freeze, World.alloc, World.drew, -World.alloc_eq, -World.drew_eq], by rw [Lib.bytesWorld_size]; omega, fun k hk _ => Lib.bytesWorld_at_old w e s k hk⟩
theorem bytesWorld_lies (e : TypeId) (s : ByteArray) : Lies (Lib.bytesWorld w e s) (some ⟨w.heap.size, 0, none⟩) (ub s.data.toList) := by
  refine Lies.of_addr fun j u hj => ?_
  have hlt : j < s.data.toList.length := by
    have := (List.getElem?_eq_some_iff.1 hj).1; rwa [ub_length] at this
  rw [ub_at hlt] at hj
  injection hj with hj
  rw [Nat.zero_add, Lib.bytesWorld_cell w e s j (by simpa using hlt), ← hj]
  have hlt' : j < s.data.size := by simpa using hlt
  have h2 := Array.getElem?_eq_getElem hlt'
  simp only [List.getD_eq_getElem?_getD, Array.getElem?_toList, h2, Option.getD_some, Array.getElem_toList]
end conv

section append3
variable {P : Program} (w : World)
/-- append of bytes onto a row of bytes. -/
theorem wpList_app_bytes {ops : Array Oper} {rest : List Oper} {o : Oper} {ac : Act} {Q : Exit → Act → World → Prop} (hgd : o.guard = none) (s x : Operand) {t e : TypeId}
    (ho : o.op = .call { callee := .builtin .append, args := #[s, x], argTypes := #[t, t] }) (he : ElemT P t e 1 1)
    (a : Option Addr) (n cap : Nat) (xs : List UInt8) (hv : ac.eval s = .slice a n cap) (hrow : Row w e 1 a n cap (ub xs))
    (b : Option Addr) (m c : Nat) (ys : List UInt8) (hx : ac.eval x = .slice b m c) (hl : Lies w b (ub ys)) (hm : ys.length = m) (hsz : n + m ≤ 140737488355328)
    (h : ∀ a' cap' w', Row w' e 1 a' (n + m) cap' (ub (xs ++ ys)) → Only (fun k => ablk a = some k) w w' → (ablk a' = ablk a ∨ ablk a' = some w.heap.size) →
      wpList P ops Q rest (ac.put o.dst (.slice a' (n + m) cap')) w') : wpList P ops Q (o :: rest) ac w :=
  wpList_app w hgd s x ho he a n cap (ub xs) hv hrow b m c (ub ys) hx hl (by rw [ub_length]; omega) (ub_one ys) (by simp only [maxLen]; omega) (by omega)
    (fun a' cap' w' h1 h2 h3 => h a' cap' w' (by rw [ub_append]; exact h1) h2 h3)
end append3
end Go.Proofs.YtipeanblfjimdaaDoor
