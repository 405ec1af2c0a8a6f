/- Whole arrays and structs, read out of memory and written into it. No program in sight. -/
import Derived.Test.YtipeanblfjimdaaDoorBase
import Derived.Laws.Rows
import Derived.Laws.CopyOwn
namespace Go.Proofs.YtipeanblfjimdaaDoor
open Go.RowKit

/-- A struct's or an array's type, of so many cells. -/
def AggT (P : Program) (t : TypeId) (n : Nat) : Prop :=
  (∃ d, P.underlying t = some d ∧ (match d with | .struct _ | .array _ _ => true | _ => false) = true) ∧ (P.info? t).map (·.size) = some n
section
variable {P : Program} {w : World}
theorem run_loadVar_agg {t : TypeId} {n : Nat} (ht : AggT P t n) (b o : Nat) (xs : List Value) (hn : xs.length = n) (hl : Lies w (some ⟨b, o, none⟩) xs) :
    (loadVar t ⟨b, o, none⟩).run P w = .ok (.agg xs.toArray) w := by
  obtain ⟨⟨d, hu, hd⟩, hi⟩ := ht
  have hlo : (loadCells ⟨b, o, none⟩ xs.length).run P w = .ok xs.toArray w :=
    run_loadCells_list (P := P) w ⟨b, o, none⟩ xs (fun j v hv => by
      have hadd : (⟨b, o, none⟩ : Addr).add j = ⟨b, o + j, none⟩ := by unfold Addr.add; split <;> simp_all
      rw [hadd]; exact hl.at hv)
  cases hq : P.info? t with
  | none => simp [hq] at hi
  | some i =>
    have hs : i.size = n := by simpa [hq] using hi
    have hagg : (isAgg t).run P w = .ok true w := by
      unfold isAgg
      rw [Sem.run_bind, run_underlying hu w]
      cases d <;> simp_all
    rw [hn] at hlo
    simp [loadVar, Sem.run_bind, hagg, sizeOf, typeInfo, hq, hs, hlo]
theorem wp_load_agg {o : Oper} {ac : Act} {K : Act → World → Prop} {Q : Exit → Act → World → Prop} {t : TypeId} {x : Operand} (ho : o.op = .load t x) {n : Nat} (ht : AggT P t n)
    (b off : Nat) (xs : List Value) (hx : ac.eval x = .pointer (some ⟨b, off, none⟩)) (hn : xs.length = n) (hl : Lies w (some ⟨b, off, none⟩) xs)
    (h : K (ac.put o.dst (.agg xs.toArray)) w) : o.wp P ac w K Q := by
  unfold Oper.wp execOp
  simp only [ho, hx, Instr.loadAt, Instr.sureAddr, Sem.run_bind, Sem.run_pure, Result.andThen_ok, run_loadVar_agg ht b off xs hn hl]
  exact h
theorem wpList_load_agg {ops : Array Oper} {rest : List Oper} {o : Oper} {ac : Act} {Q : Exit → Act → World → Prop} (hgd : o.guard = none) {t : TypeId} {x : Operand} (ho : o.op = .load t x) {n : Nat} (ht : AggT P t n)
    (b off : Nat) (xs : List Value) (hx : ac.eval x = .pointer (some ⟨b, off, none⟩)) (hn : xs.length = n) (hl : Lies w (some ⟨b, off, none⟩) xs)
    (h : wpList P ops Q rest (ac.put o.dst (.agg xs.toArray)) w) : wpList P ops Q (o :: rest) ac w :=
  wpList_plain hgd fun _ hK => wp_load_agg ho ht b off xs hx hn hl (hK _ _ h)
theorem stop_load {ops : Array Oper} {rest : List Oper} {o : Oper} {ac : Act} {Q : Exit → Act → World → Prop} (t : TypeId) {x : Operand} (_ : o.op = .load t x)
    (h : Stop (wpList P ops Q (o :: rest) ac w)) : wpList P ops Q (o :: rest) ac w := h
theorem stop_store {ops : Array Oper} {rest : List Oper} {o : Oper} {ac : Act} {Q : Exit → Act → World → Prop} (t : TypeId) {x y : Operand} (_ : o.op = .store t x y)
    (h : Stop (wpList P ops Q (o :: rest) ac w)) : wpList P ops Q (o :: rest) ac w := h
theorem stop_load_step {ops : Array Oper} {o : Oper} {ac : Act} {K : Act → World → Prop} {Q : Exit → Act → World → Prop} {E : Prop} (hgd : o.guard = none) {t : TypeId} {x : Operand} (ho : o.op = .load t x) {n : Nat} (ht : AggT P t n)
    (b off : Nat) (xs : List Value) (hx : ac.eval x = .pointer (some ⟨b, off, none⟩)) (hn : xs.length = n) (hl : Lies w (some ⟨b, off, none⟩) xs)
    (h : K (ac.put o.dst (.agg xs.toArray)) w) : if Region.wanted o (yielded ops ac.tmps) = true then Oper.wp P o ac w K Q else E := by
  rw [if_pos (by simp [Region.wanted, hgd])]
  exact wp_load_agg ho ht b off xs hx hn hl h
/-- What a block holds behind a store of `xs` at `o`. -/
def putAt (cur : Array Value) (o : Nat) (xs : List Value) : Array Value := (cur.toList.take o ++ xs ++ cur.toList.drop (o + xs.length)).toArray
theorem putAt_size {cur : Array Value} {o : Nat} {xs : List Value} (h : o + xs.length ≤ cur.size) : (putAt cur o xs).size = cur.size := by
  simp [putAt]; omega
theorem run_storeVar_agg {t : TypeId} {n : Nat} (ht : AggT P t n) (b o : Nat) (E : TypeId) (cur : Array Value) (hb : Blk w b cur E) (xs : List Value) (hn : xs.length = n) (h1 : ∀ u ∈ xs, u.oneCell' = true) (hfit : o + n ≤ cur.size) :
    (storeVar t ⟨b, o, none⟩ (.agg xs.toArray)).run P w = .ok () (w.setRow b (putAt cur o xs)) := by
  obtain ⟨_, hi⟩ := ht
  have hst := run_storeCells_at P b o E xs 0 cur w hb (by rw [hn]; simpa using hfit) h1
  simp only [Nat.add_zero] at hst
  cases hq : P.info? t with
  | none => simp [hq] at hi
  | some i =>
    have hs : i.size = n := by simpa [hq] using hi
    simp [storeVar, Value.cells, Sem.run_bind, sizeOf, typeInfo, hq, hs, hn, hst, putAt]
theorem wp_store_agg {o : Oper} {ac : Act} {K : Act → World → Prop} {Q : Exit → Act → World → Prop} {t : TypeId} {x y : Operand} (ho : o.op = .store t x y) {n : Nat} (ht : AggT P t n)
    (b off : Nat) (E : TypeId) (cur : Array Value) (hb : Blk w b cur E) (xs : List Value) (hx : ac.eval x = .pointer (some ⟨b, off, none⟩)) (hy : ac.eval y = .agg xs.toArray) (hn : xs.length = n)
    (h1 : ∀ u ∈ xs, u.oneCell' = true) (hfit : off + n ≤ cur.size)
    (h : K (ac.put o.dst undef) (w.setRow b (putAt cur off xs))) : o.wp P ac w K Q := by
  unfold Oper.wp execOp
  simp only [ho, hx, hy, Instr.storeAt, Instr.sureAddr, Sem.run_bind, Sem.run_pure, Result.andThen_ok, run_storeVar_agg ht b off E cur hb xs hn h1 hfit]
  exact h
theorem wpList_store_agg {ops : Array Oper} {rest : List Oper} {o : Oper} {ac : Act} {Q : Exit → Act → World → Prop} (hgd : o.guard = none) {t : TypeId} {x y : Operand} (ho : o.op = .store t x y) {n : Nat} (ht : AggT P t n)
    (b off : Nat) (E : TypeId) (cur : Array Value) (hb : Blk w b cur E) (xs : List Value) (hx : ac.eval x = .pointer (some ⟨b, off, none⟩)) (hy : ac.eval y = .agg xs.toArray) (hn : xs.length = n)
    (h1 : ∀ u ∈ xs, u.oneCell' = true) (hfit : off + n ≤ cur.size)
    (h : wpList P ops Q rest (ac.put o.dst undef) (w.setRow b (putAt cur off xs))) : wpList P ops Q (o :: rest) ac w :=
  wpList_plain hgd fun _ hK => wp_store_agg ho ht b off E cur hb xs hx hy hn h1 hfit (hK _ _ h)
theorem Blk.setRow {b : Nat} {cur cur' : Array Value} {E : TypeId} (hb : Blk w b cur E) : Blk (w.setRow b cur') b cur' E := setRow_heap w b cur cur' E (0, 0) hb
theorem Blk.setRow_ne {b c : Nat} {cur cur' : Array Value} {E : TypeId} (hb : Blk w b cur E) (hn : b ≠ c) : Blk (w.setRow c cur') b cur E := (setRow_other w c b cur' hn).trans hb
theorem Only.setRow {S : Nat → Prop} {w0 : World} (h : Only S w0 w) {b : Nat} (hS : b < w0.heap.size → S b) (cur : Array Value) : Only S w0 (w.setRow b cur) :=
  ⟨h.os, h.tape, h.output, by simpa using h.size, fun k hk hn => (setRow_other w b k cur (fun e => by subst e; exact hn (hS hk))).trans (h.block k hk hn)⟩
theorem Lies.setRow {a : Option Addr} {xs : List Value} {b : Nat} (h : Lies w a xs) (hn : ablk a ≠ some b) (cur : Array Value) : Lies (w.setRow b cur) a xs :=
  h.keep fun k hk _ => setRow_other w b k cur (fun e => hn (by rw [hk, e]))
theorem Row.setRow_ne {e size : Nat} {a : Option Addr} {n cap : Nat} {xs : List Value} {b : Nat} (h : Row w e size a n cap xs) (hn : ablk a ≠ some b) (cur : Array Value) : Row (w.setRow b cur) e size a n cap xs :=
  h.keep fun k hk _ => setRow_other w b k cur (fun e => hn (by rw [hk, e]))
theorem take_put {α : Type} (L ys : List α) (a k n : Nat) (hy : ys.length = k) (h1 : a + k ≤ n) (h2 : n ≤ L.length) :
    (L.take a ++ ys ++ L.drop (a + k)).take n = (L.take n).take a ++ ys ++ (L.take n).drop (a + k) := by
  have e1 : (L.take a ++ ys).length = a + k := by simp [hy]; omega
  rw [List.take_append, e1, List.take_of_length_le (by omega), List.drop_take, List.take_take, Nat.min_eq_left (by omega)]
/-- A store of one element into a row of the call's own. -/
theorem Row.put {e size : Nat} {b n cap : Nat} {xs : List Value} (h : Row w e size (some ⟨b, 0, none⟩) n cap xs) :
    ∃ cur, Blk w b cur e ∧ cur.size = cap * size ∧ ∀ (i : Nat) (ys : List Value), ys.length = size → i < n → Row (w.setRow b (putAt cur (i * size) ys)) e size (some ⟨b, 0, none⟩) n cap (xs.take (i * size) ++ ys ++ xs.drop ((i + 1) * size)) := by
  obtain ⟨h1, h2, h3, h4⟩ := h
  rcases h4 with ⟨h4, _⟩ | ⟨g, cur, hg, hh, hs, ht⟩
  · cases h4
  · injection hg with hg; injection hg with hg; subst hg
    refine ⟨cur, hh, hs, fun i ys hy hi => ⟨?_, h2, h3, .inr ⟨b, _, rfl, setRow_heap w b cur _ e (0, 0) hh, ?_, ?_⟩⟩⟩
    · have : (i + 1) * size ≤ n * size := Nat.mul_le_mul_right _ hi
      rw [Nat.add_mul] at this
      simp only [List.length_append, List.length_take, List.length_drop, h1, hy, Nat.add_mul]
      omega
    · have : (i + 1) * size ≤ cap * size := Nat.mul_le_mul_right _ (by omega)
      rw [putAt_size (by rw [hy, hs, Nat.add_mul] at *; omega), hs]
    · have hle : (i + 1) * size ≤ n * size := Nat.mul_le_mul_right _ hi
      have hle2 : n * size ≤ cap * size := Nat.mul_le_mul_right _ h2
      rw [← ht]
      have hsz : cur.toList.length = cap * size := by simpa using hs
      simp only [putAt]
      rw [Nat.add_mul, Nat.one_mul] at hle ⊢
      rw [hy]
      exact take_put (cur.toList) ys (i * size) size (n * size) hy (by omega) (by omega)
end
end Go.Proofs.YtipeanblfjimdaaDoor
