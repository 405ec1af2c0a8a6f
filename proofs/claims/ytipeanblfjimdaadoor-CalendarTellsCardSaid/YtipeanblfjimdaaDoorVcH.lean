/- Memory in a walk: what is known of blocks, in one word. No program in sight. -/
import Derived.Test.YtipeanblfjimdaaDoorVcL
import Derived.Test.YtipeanblfjimdaaDoorDiskA
namespace Go.Proofs.YtipeanblfjimdaaDoor
open Go Go.RowKit

/-- A thing in memory: a block that is known whole; a row that may be appended to; whatever hangs on some blocks alone. -/
inductive It where
  | rows (e : TypeId) (size : Nat) (l : List (Option Addr × Nat × Nat × List Value))
  | blk (B : Nat) (cs : Array Value) (T : TypeId)
  | row (e : TypeId) (size : Nat) (a : Option Addr) (n cap : Nat) (xs : List Value)
  | gen (F : Nat → Prop) (φ : World → Prop) (st : ∀ w w' : World, (∀ k, F k → w'.heap[k]? = w.heap[k]?) → w.heap.size ≤ w'.heap.size → φ w → φ w')
def It.fp : It → Nat → Prop
  | .rows _ _ l => fun k => ∃ r ∈ l, ablk r.1 = some k
  | .blk B _ _ => fun k => k = B
  | .row _ _ a _ _ _ => fun k => ablk a = some k
  | .gen F _ _ => F
def It.ok : It → World → Prop
  | .rows e s l => fun w => ∀ r ∈ l, Row w e s r.1 r.2.1 r.2.2.1 r.2.2.2
  | .blk B cs T => fun w => Blk w B cs T
  | .row e s a n c xs => fun w => Row w e s a n c xs
  | .gen F φ _ => fun w => φ w ∧ ∀ k, F k → k < w.heap.size
theorem It.lt {i : It} {w : World} (h : i.ok w) {k : Nat} (hk : i.fp k) : k < w.heap.size := by
  cases i with
  | rows e s l => obtain ⟨r, hr, hk⟩ := hk; exact Row.lt (h r hr) k hk
  | blk B cs T => obtain rfl : k = B := hk; exact Blk.lt h
  | row e s a n c xs => exact Row.lt h k hk
  | gen F φ st => exact h.2 k hk
theorem It.keep {i : It} {w w' : World} (h : i.ok w) (hz : w.heap.size ≤ w'.heap.size) (hk : ∀ k, i.fp k → w'.heap[k]? = w.heap[k]?) : i.ok w' := by
  cases i with
  | rows e s l => exact fun r hr => Row.keep (h r hr) fun b hb _ => hk b ⟨r, hr, hb⟩
  | blk B cs T => exact (hk B rfl).trans h
  | row e s a n c xs => exact Row.keep h fun b hb _ => hk b hb
  | gen F φ st => exact ⟨st w w' hk hz h.1, fun k hf => Nat.lt_of_lt_of_le (h.2 k hf) hz⟩
theorem It.only {i : It} {w w' : World} {S : Nat → Prop} (h : i.ok w) (ho : Only S w w') (hn : ∀ k, i.fp k → ¬ S k) : i.ok w' :=
  i.keep h ho.size fun k hk => ho.block k (i.lt h hk) (hn k hk)
/-- From `w0` to `w` only blocks in `S` have changed; the things in `L` are there, are apart, and are new or in `S`. -/
structure Hp (S : Nat → Prop) (w0 w : World) (L : List It) : Prop where
  only : Only S w0 w
  ok : ∀ i ∈ L, i.ok w
  apart : L.Pairwise fun a b => ∀ k, a.fp k → ¬ b.fp k
  own : ∀ i ∈ L, ∀ k, i.fp k → w0.heap.size ≤ k ∨ S k
inductive At : List It → Nat → It → Prop
  | zero {i : It} {L : List It} : At (i :: L) 0 i
  | succ {x i : It} {L : List It} {j : Nat} (h : At L j i) : At (x :: L) (j + 1) i
theorem At.get {L : List It} {j : Nat} {i : It} (h : At L j i) : L[j]? = some i := by
  induction h with
  | zero => rfl
  | succ h ih => simpa using ih
theorem At.mem {L : List It} {j : Nat} {i : It} (h : At L j i) : i ∈ L := List.mem_of_getElem? h.get
section
variable {P : Program} {S : Nat → Prop} {w0 w w' : World} {L : List It}
theorem Hp.start (S : Nat → Prop) (w : World) : Hp S w w [] := ⟨Only.refl _ _, by simp, .nil, by simp⟩
theorem Hp.add (h : Hp S w0 w L) {i : It} (hi : i.ok w) (hS : ∀ k, i.fp k → w0.heap.size ≤ k ∨ S k) (hn : ∀ j ∈ L, ∀ k, i.fp k → ¬ j.fp k) : Hp S w0 w (i :: L) :=
  ⟨h.only, fun e he => by rcases List.mem_cons.1 he with rfl | he; exact hi; exact h.ok e he, .cons hn h.apart, fun e he => by rcases List.mem_cons.1 he with rfl | he; exact hS; exact h.own e he⟩
theorem Hp.pure (h : Hp S w0 w L) (hp : Pure w w') : Hp S w0 w' L :=
  ⟨h.only.trans hp (fun _ _ k => k.elim), fun e he => It.only (h.ok e he) hp (fun _ _ => id), h.apart, h.own⟩
/-- A thing that came in new. -/
theorem Hp.fresh (h : Hp S w0 w L) (hp : Pure w w') {i : It} (hi : i.ok w') (hf : ∀ k, i.fp k → w.heap.size ≤ k) : Hp S w0 w' (i :: L) :=
  (h.pure hp).add hi (fun k hk => .inl (Nat.le_trans h.only.size (hf k hk))) (fun j hj k hk hk' => by have := hf k hk; have := j.lt (h.ok j hj) hk'; omega)
theorem Hp.new (h : Hp S w0 w L) (cs : Array Value) (T : TypeId) : Hp S w0 (w.alloc (.cells cs T)) (.blk w.heap.size cs T :: L) :=
  h.fresh ((Only.refl _ _).alloc _) (i := .blk w.heap.size cs T) (Blk.new _ _ _) (fun k hk => Nat.le_of_eq hk.symm)
/-- A nil row. -/
theorem Hp.nil (h : Hp S w0 w L) (e : TypeId) (size : Nat) : Hp S w0 w (.row e size none 0 0 [] :: L) :=
  h.add (i := .row e size none 0 0 []) (Row.nil _ _ _) (fun _ hk => by cases hk) (fun _ _ _ hk => by cases hk)
theorem Hp.drew (h : Hp S w0 w L) : Hp S w0 w.drew L := h.pure (Only.refl _ _).drew
theorem Hp.drop (h : Hp S w0 w L) {L' : List It} (hs : L'.Sublist L) : Hp S w0 w L' := ⟨h.only, fun e he => h.ok e (hs.mem he), h.apart.sublist hs, fun e he => h.own e (hs.mem he)⟩
theorem Hp.tail {i : It} (h : Hp S w0 w (i :: L)) : Hp S w0 w L := h.drop (List.sublist_cons_self _ _)
theorem Hp.get (h : Hp S w0 w L) {j : Nat} {i : It} (hj : L[j]? = some i) : i.ok w := h.ok i (List.mem_of_getElem? hj)
/-- One thing turns into another one. -/
theorem Hp.upd (h : Hp S w0 w L) {j : Nat} {i : It} (hj : L[j]? = some i) {i' : It} (ho : Only i.fp w w') (hok : i'.ok w') (hfp : ∀ k, i'.fp k → i.fp k ∨ w.heap.size ≤ k) : Hp S w0 w' (L.set j i') := by
  have hm : i ∈ L := List.mem_of_getElem? hj
  have hlt : j < L.length := (List.getElem?_eq_some_iff.1 hj).1
  have hjj : L[j] = i := (List.getElem?_eq_some_iff.1 hj).2
  have hne : ∀ (m : Nat) (hl : m < L.length), m ≠ j → ∀ k, (L[m]).fp k → ¬ i.fp k := by
    intro m hl hmj k hk hk'
    rcases Nat.lt_or_gt_of_ne hmj with h1 | h1
    · have := List.pairwise_iff_getElem.1 h.apart m j hl hlt h1 k hk
      rw [hjj] at this; exact this hk'
    · have := List.pairwise_iff_getElem.1 h.apart j m hlt hl h1 k
      rw [hjj] at this; exact this hk' hk
  have hne' : ∀ (m : Nat) (hl : m < L.length), m ≠ j → ∀ k, (L[m]).fp k → ¬ i'.fp k := by
    intro m hl hmj k hk hk'
    rcases hfp k hk' with h1 | h1
    · exact hne m hl hmj k hk h1
    · have := (L[m]).lt (h.ok _ (List.getElem_mem hl)) hk; omega
  refine ⟨h.only.trans ho (fun k hk hi => (h.own _ hm k hi).resolve_left (by omega)), ?_, ?_, ?_⟩
  · intro e he
    obtain ⟨m, hl, rfl⟩ := List.mem_iff_getElem.1 he
    rw [List.getElem_set]
    split
    · exact hok
    · rename_i hmj
      have hl' : m < L.length := by simpa using hl
      exact It.only (h.ok _ (List.getElem_mem hl')) ho (fun k hk => hne m hl' (fun e => hmj e.symm) k hk)
  · rw [List.pairwise_iff_getElem]
    intro a b ha hb hab k
    have ha' : a < L.length := by simpa using ha
    have hb' : b < L.length := by simpa using hb
    rw [List.getElem_set, List.getElem_set]
    split <;> split
    · omega
    · intro h1 h2; exact hne' b hb' (by omega) k h2 h1
    · intro h1 h2; exact hne' a ha' (by omega) k h1 h2
    · exact List.pairwise_iff_getElem.1 h.apart a b ha' hb' hab k
  · intro e he k hk
    rcases List.mem_or_eq_of_mem_set he with he | rfl
    · exact h.own e he k hk
    · rcases hfp k hk with h1 | h1
      · exact h.own i hm k h1
      · exact .inl (Nat.le_trans h.only.size h1)
/-- The order is no matter. -/
theorem Hp.perm (h : Hp S w0 w L) {L' : List It} (hp : L'.Perm L) : Hp S w0 w L' :=
  ⟨h.only, fun i hi => h.ok i (hp.mem_iff.1 hi), (hp.symm.pairwise h.apart (fun hab k h1 h2 => hab k h2 h1)), fun i hi => h.own i (hp.mem_iff.1 hi)⟩
theorem Hp.base {S' : Nat → Prop} {v0 : World} (h : Hp S w0 w L) (ho : Only S' v0 w0) (hS : ∀ k, k < v0.heap.size → S k → S' k) : Hp S' v0 w L :=
  ⟨ho.trans h.only hS, h.ok, h.apart, fun i hi k hk => by
    rcases h.own i hi k hk with h1 | h1
    · exact .inl (Nat.le_trans ho.size h1)
    · by_cases hl : k < v0.heap.size
      · exact .inr (hS _ hl h1)
      · exact .inl (by omega)⟩
theorem Hp.lies (h : Hp S w0 w L) {a : Option Addr} {xs : List Value} (hl : Lies w0 a xs) (hn : ∀ b, ablk a = some b → ¬ S b) : Lies w a xs := hl.only h.only hn

/-! ### Steps -/
variable {K : Value → World → Prop}
theorem val_ok {s : Sem Value} {v : Value} {w1 : World} (h : s.run P w = .ok v w1) (k : K v w1) : val P s w K := by unfold val; rw [h]; exact k
theorem pu_ok {s : Sem Value} {K : Value → Prop} {v : Value} (h : ∀ w, s.run P w = .ok v w) (k : K v) : pu P s K := pu_iff.2 ⟨v, h, k⟩
theorem unt_ok {s : Sem Unit} {K : World → Prop} {w1 : World} (h : s.run P w = .ok () w1) (k : K w1) : unt P s w K := by unfold unt; rw [h]; exact k
theorem run_box (T : TypeId) (v : Value) (w : World) : (Instr.box T v).run P w = .ok (.pointer (some ⟨w.heap.size, 0, none⟩)) (w.alloc (.cells v.cells T)) := by
  simp [Instr.box, newVar, newRow]
theorem val_box (h : Hp S w0 w L) {T : TypeId} {v : Value} (k : ∀ (B : Nat) (w1 : World), w.heap.size = B → Pure w w1 → Hp S w0 w1 (.blk B v.cells T :: L) → K (.pointer (some ⟨B, 0, none⟩)) w1) : val P (Instr.box T v) w K :=
  val_ok (run_box T v w) (k _ _ rfl ((Only.refl _ _).alloc _) (h.new _ _))
theorem val_alloc (h : Hp S w0 w L) {T : TypeId} {z : Value} (hz : ∀ w, (zeroValue T).run P w = .ok z w) (k : ∀ (B : Nat) (w1 : World), w.heap.size = B → Pure w w1 → Hp S w0 w1 (.blk B z.cells T :: L) → K (.pointer (some ⟨B, 0, none⟩)) w1) :
    val P (Instr.alloc T true (.tuple #[])) w K :=
  val_ok (v := .pointer (some ⟨w.heap.size, 0, none⟩)) (w1 := w.alloc (.cells z.cells T)) (by simp [Instr.alloc, newVar, newRow, hz]) (k _ _ rfl ((Only.refl _ _).alloc _) (h.new _ _))
/-- A slice that is made of parts. -/
theorem val_bs (h : Hp S w0 w L) {s : Sem Value} {cs : Array Value} {T : TypeId} {n c : Nat} (hr : s.run P w = .ok (.slice (some ⟨w.heap.size, 0, none⟩) n c) (w.alloc (.cells cs T)))
    (k : ∀ (B : Nat) (w1 : World), w.heap.size = B → Pure w w1 → Hp S w0 w1 (.blk B cs T :: L) → K (.slice (some ⟨B, 0, none⟩) n c) w1) : val P s w K :=
  val_ok hr (k _ _ rfl ((Only.refl _ _).alloc _) (h.new _ _))
theorem onOk_bs (h : Hp S w0 w L) {cs : Array Value} {T : TypeId} {n c : Nat}
    (k : ∀ (B : Nat) (w1 : World), w.heap.size = B → Pure w w1 → Hp S w0 w1 (.blk B cs T :: L) → K (.slice (some ⟨B, 0, none⟩) n c) w1) : onOk (.ok (.slice (some ⟨w.heap.size, 0, none⟩) n c) (w.alloc (.cells cs T))) K :=
  k _ _ rfl ((Only.refl _ _).alloc _) (h.new _ _)
theorem run_load1 {ty : TypeId} (h1 : ∀ w, (isAgg ty).run P w = .ok false w) {a : Addr} {v : Value} (hc : w.cell? a = some v) : (Instr.loadAt ty (.pointer (some a))).run P w = .ok v w := by
  simp [Instr.loadAt, Instr.sureAddr, loadVar, h1, hc]
theorem Hp.cell (h : Hp S w0 w L) {B i : Nat} {cs : Array Value} {T : TypeId} {v : Value} (hm : It.blk B cs T ∈ L) (hv : cs.toList[i]? = some v) : w.cell? ⟨B, i, none⟩ = some v := Blk.cell (h.ok _ hm) (by simpa using hv)
theorem val_ld (h : Hp S w0 w L) {ty : TypeId} {B i : Nat} {cs : Array Value} {T : TypeId} {v : Value} (h1 : ∀ w, (isAgg ty).run P w = .ok false w) {q : Nat} (hm : At L q (It.blk B cs T)) (hv : cs.toList[i]? = some v) (k : K v w) :
    val P (ld1 ty (.pointer (some ⟨B, i, none⟩))) w K := ld1_eq .. ▸ val_ok (run_load1 h1 (h.cell hm.mem hv)) k
theorem rd_ld {K : Value → Prop} (h : Hp S w0 w L) {ty : TypeId} {B i : Nat} {cs : Array Value} {T : TypeId} {v : Value} (h1 : ∀ w, (isAgg ty).run P w = .ok false w) {q : Nat} (hm : At L q (It.blk B cs T)) (hv : cs.toList[i]? = some v) (k : K v) :
    rd P (ld1 ty (.pointer (some ⟨B, i, none⟩))) w K := ld1_eq .. ▸ rd_iff.2 ⟨v, run_load1 h1 (h.cell hm.mem hv), k⟩
theorem val_ldc {ty : TypeId} {a : Addr} {v : Value} (h1 : ∀ w, (isAgg ty).run P w = .ok false w) (hc : w.cell? a = some v) (k : K v w) : val P (ld1 ty (.pointer (some a))) w K := ld1_eq .. ▸ val_ok (run_load1 h1 hc) k
theorem rd_ldc {K : Value → Prop} {ty : TypeId} {a : Addr} {v : Value} (h1 : ∀ w, (isAgg ty).run P w = .ok false w) (hc : w.cell? a = some v) (k : K v) : rd P (ld1 ty (.pointer (some a))) w K := ld1_eq .. ▸ rd_iff.2 ⟨v, run_load1 h1 hc, k⟩
theorem run_ldA {ty : TypeId} {n : Nat} (ht : AggT P ty n) {b o : Nat} {xs : List Value} (hn : xs.length = n) (hl : Lies w (some ⟨b, o, none⟩) xs) : (Instr.loadAt ty (.pointer (some ⟨b, o, none⟩))).run P w = .ok (.agg xs.toArray) w := by
  simp [Instr.loadAt, Instr.sureAddr, run_loadVar_agg ht b o xs hn hl]
/-- A whole struct that is a block. -/
theorem val_ldB (h : Hp S w0 w L) {ty : TypeId} {B : Nat} {cs : Array Value} {T : TypeId} {q : Nat} (hm : At L q (It.blk B cs T)) (ht : AggT P ty cs.size) (k : K (.agg cs) w) :
    val P (ldS ty (.pointer (some ⟨B, 0, none⟩))) w K := ldS_eq .. ▸ val_ok (run_ldA ht (by simp) (Blk.lies (h.ok _ hm.mem))) k
theorem rd_ldB {K : Value → Prop} (h : Hp S w0 w L) {ty : TypeId} {B : Nat} {cs : Array Value} {T : TypeId} {q : Nat} (hm : At L q (It.blk B cs T)) (ht : AggT P ty cs.size) (k : K (.agg cs)) :
    rd P (ldS ty (.pointer (some ⟨B, 0, none⟩))) w K := ldS_eq .. ▸ rd_iff.2 ⟨_, run_ldA ht (by simp) (Blk.lies (h.ok _ hm.mem)), k⟩
theorem val_ldl {ty : TypeId} {n : Nat} (ht : AggT P ty n) {b o : Nat} {xs : List Value} (hn : xs.length = n) (hl : Lies w (some ⟨b, o, none⟩) xs) (k : K (.agg xs.toArray) w) :
    val P (ldS ty (.pointer (some ⟨b, o, none⟩))) w K := ldS_eq .. ▸ val_ok (run_ldA ht hn hl) k
theorem rd_ldl {K : Value → Prop} {ty : TypeId} {n : Nat} (ht : AggT P ty n) {b o : Nat} {xs : List Value} (hn : xs.length = n) (hl : Lies w (some ⟨b, o, none⟩) xs) (k : K (.agg xs.toArray)) :
    rd P (ldS ty (.pointer (some ⟨b, o, none⟩))) w K := ldS_eq .. ▸ rd_iff.2 ⟨_, run_ldA ht hn hl, k⟩
theorem unt_st {K : World → Prop} (h : Hp S w0 w L) {j : Nat} {ty : TypeId} {B i : Nat} {cs : Array Value} {T : TypeId} {v : Value} (hk' : At L j (.blk B cs T)) (hs : ∀ w, (sizeOf ty).run P w = .ok 1 w) (h1 : v.oneCell' = true) (hi : (cs.toList[i]?).isSome = true)
    (k : ∀ w1 : World, Only (fun x => x = B) w w1 → Hp S w0 w1 (L.set j (.blk B (cs.setIfInBounds i v) T)) → K w1) : unt P (st1 ty (.pointer (some ⟨B, i, none⟩)) v) w K := by
  rw [st1_eq]
  have hk := hk'.get
  have hb : Blk w B cs T := h.get hk
  obtain ⟨u, hu⟩ := Option.isSome_iff_exists.1 (show (cs[i]?).isSome = true by simpa using hi)
  have hcl : v.cells = #[v] := by cases v <;> first | rfl | cases h1
  have ho : Only (fun x => x = B) w (w.setCell ⟨B, i, none⟩ v) := Only.setCell (S := fun x => x = B) (Only.refl _ _) (fun _ => rfl) v
  refine unt_ok (w1 := w.setCell ⟨B, i, none⟩ v) ?_ (k _ ho (h.upd hk ho (i' := .blk B (cs.setIfInBounds i v) T) (hb.set i v) (fun k hk => .inl hk)))
  simp [Instr.storeAt, Instr.sureAddr, storeVar, hcl, hs, storeCells, run_store P w ⟨B, i, none⟩ v _ h1, hb.cell hu, hb.frozen i, Addr.add]
/-- A whole struct, into a block of its own. -/
theorem unt_stB {K : World → Prop} (h : Hp S w0 w L) {j : Nat} {ty : TypeId} {B : Nat} {cs xs : Array Value} {T : TypeId} (hk' : At L j (.blk B cs T)) (ht : AggT P ty xs.size) (hz : xs.size = cs.size) (h1 : (xs.toList.all (·.oneCell')) = true)
    (k : ∀ w1 : World, Only (fun x => x = B) w w1 → Hp S w0 w1 (L.set j (.blk B xs T)) → K w1) : unt P (stS ty (.pointer (some ⟨B, 0, none⟩)) (.agg xs)) w K := by
  rw [stS_eq]
  have hk := hk'.get
  have hb : Blk w B cs T := h.get hk
  have hp : putAt cs 0 xs.toList = xs := by
    unfold putAt
    have : List.drop (0 + xs.toList.length) cs.toList = [] := by simp [hz]
    rw [this]; simp
  have hr := run_storeVar_agg (w := w) ht B 0 T cs hb xs.toList (by simp) (fun u hu => List.all_eq_true.1 h1 u hu) (by omega)
  rw [hp] at hr
  have ho : Only (fun x => x = B) w (w.setRow B xs) := Only.setRow (S := fun x => x = B) (Only.refl _ _) (fun _ => rfl) _
  refine unt_ok (w1 := w.setRow B xs) ?_ (k _ ho (h.upd hk ho (i' := .blk B xs T) hb.setRow (fun k hk => .inl hk)))
  simpa [Instr.storeAt, Instr.sureAddr] using hr
/-- append onto a row. -/
theorem val_app (h : Hp S w0 w L) {j : Nat} {t ty e : TypeId} {size bytes : Nat} (he : ElemT P t e size bytes) {a : Option Addr} {n cap : Nat} {xs : List Value} (hk' : At L j (.row e size a n cap xs))
    {b : Option Addr} {m c : Nat} {ys : List Value} (hl : Lies w b ys) (hm : ys.length = m * size) (h1 : ∀ u ∈ ys, u.oneCell' = true) (h63 : n + m ≤ maxLen) (hbytes : (n + m) * bytes ≤ 140737488355328)
    (k : ∀ a' cap' w1, Only (fun k => ablk a = some k) w w1 → (ablk a' = ablk a ∨ ablk a' = some w.heap.size) → Hp S w0 w1 (L.set j (.row e size a' (n + m) cap' (xs ++ ys))) → K (.slice a' (n + m) cap') w1) :
    val P (Builtin.append_ #[t, t] ty #[.slice a n cap, .slice b m c]) w K := by
  have hk := hk'.get
  obtain ⟨ht, h0, i, z, hi, hz, hsize, hby, hzs⟩ := he
  obtain ⟨a', cap', w1, hr, hrow, ho, hat⟩ := run_append_row (P := P) w t t ty e i z size bytes ht hi hz hsize hby hzs h0 a n cap xs (h.get hk) _ m ys (src_lies (c := c) ht h0 hm hl h1) h63 hbytes
  exact val_ok hr (k a' cap' w1 ho hat (h.upd hk ho (i' := .row e size a' (n + m) cap' (xs ++ ys)) hrow (fun q hq => by
    rcases hat with h2 | h2
    · exact .inl (show ablk a = some q from h2 ▸ hq)
    · right; have : some q = some w.heap.size := hq.symm.trans h2; injection this with this; omega)))
theorem val_appB (h : Hp S w0 w L) {j : Nat} {t ty e : TypeId} {size bytes : Nat} (he : ElemT P t e size bytes) {a : Option Addr} {n cap : Nat} {xs : List Value} (hk' : At L j (.row e size a n cap xs))
    {B m c : Nat} {cs : Array Value} {T : TypeId} {q : Nat} (hs : At L q (It.blk B cs T)) (hm : cs.size = m * size) (h1 : (cs.toList.all (·.oneCell')) = true) (h63 : n + m ≤ maxLen) (hbytes : (n + m) * bytes ≤ 140737488355328)
    (k : ∀ a' cap' w1, Only (fun k => ablk a = some k) w w1 → (ablk a' = ablk a ∨ ablk a' = some w.heap.size) → Hp S w0 w1 (L.set j (.row e size a' (n + m) cap' (xs ++ cs.toList))) → K (.slice a' (n + m) cap') w1) :
    val P (Builtin.append_ #[t, t] ty #[.slice a n cap, .slice (some ⟨B, 0, none⟩) m c]) w K :=
  val_app h he hk' (Blk.lies (h.ok _ hs.mem)) (by simpa using hm) (fun u hu => List.all_eq_true.1 h1 u hu) h63 hbytes k
theorem val_appR (h : Hp S w0 w L) {j : Nat} {t ty e : TypeId} {size bytes : Nat} (he : ElemT P t e size bytes) {a : Option Addr} {n cap : Nat} {xs : List Value} (hk' : At L j (.row e size a n cap xs))
    {b : Option Addr} {m c c' : Nat} {e' : TypeId} {ys : List Value} {q : Nat} (hs : At L q (It.row e' size b m c' ys)) (h1 : ∀ u ∈ ys, u.oneCell' = true) (h63 : n + m ≤ maxLen) (hbytes : (n + m) * bytes ≤ 140737488355328)
    (k : ∀ a' cap' w1, Only (fun k => ablk a = some k) w w1 → (ablk a' = ablk a ∨ ablk a' = some w.heap.size) → Hp S w0 w1 (L.set j (.row e size a' (n + m) cap' (xs ++ ys))) → K (.slice a' (n + m) cap') w1) :
    val P (Builtin.append_ #[t, t] ty #[.slice a n cap, .slice b m c]) w K :=
  have hr : Row w e' size b m c' ys := h.ok _ hs.mem
  val_app h he hk' hr.lies hr.len h1 h63 hbytes k
/-- A block of the call's own, taken for a row. -/
theorem Hp.asRow (h : Hp S w0 w L) {j : Nat} {B : Nat} {cs : Array Value} {e : TypeId} (hk' : At L j (.blk B cs e)) (size n : Nat) (hs : cs.size = n * size) (hn : n ≤ maxLen) : Hp S w0 w (L.set j (.row e size (some ⟨B, 0, none⟩) n n cs.toList)) :=
  h.upd hk'.get (Only.refl _ _) (i' := .row e size (some ⟨B, 0, none⟩) n n cs.toList) (Row.of_blk (h.get hk'.get) hs hn) (fun k hk => .inl (show k = B from (Option.some.inj hk).symm))

/-! ### Regions that draw -/
theorem drw_in {B : (Nat → World → Prop) → World → Prop} (h : Hp S w0 w L) (k : ∀ w1, Pure w w1 → Hp S w0 w1 L → B (atW w1) w1) : drw w B := drw_at (k _ (Only.refl _ _).drew h.drew)
theorem tk_at_in {s : Sem Value} {K : Value → Prop} (h : rd P s w K) : tk P (atW w) 0 s K := by rw [tk_at]; exact h
/-- Nothing that was there changes. -/
def pT (w : World) : Nat → World → Prop := fun _ w' => Pure w w'
theorem drw_pure {B : (Nat → World → Prop) → World → Prop} (h : Hp S w0 w L) (k : ∀ w1, Pure w w1 → Hp S w0 w1 L → B (pT w1) w1) : drw w B := drw_iff.2 ⟨pT w.drew, Only.refl _ _, k _ (Only.refl _ _).drew h.drew⟩
theorem ph_pure {X : Prop} {p : Nat} (hp : Pure w w') (h : X) : ph (pT w) p w' X := ph_iff.2 ⟨hp, h⟩
theorem tk_run {s : Sem Value} {T : Nat → World → Prop} {hi : Nat} {r : World → Result Value} {K : Value → Prop} (h : ∀ w, s.run P w = r w) (k : puR r K) : tk P T hi s K := by
  obtain ⟨v, hv, hk⟩ := puR_iff.1 k
  exact tk_iff.2 ⟨v, fun p w' _ _ => (h w').trans (hv w'), hk⟩
theorem tk_pld {K : Value → Prop} (h : Hp S w0 w L) {hi : Nat} {ty : TypeId} {B i : Nat} {cs : Array Value} {T : TypeId} {v : Value} (h1 : ∀ w, (isAgg ty).run P w = .ok false w) {q : Nat} (hm : At L q (It.blk B cs T)) (hv : cs.toList[i]? = some v) (k : K v) :
    tk P (pT w) hi (ld1 ty (.pointer (some ⟨B, i, none⟩))) K := tk_iff.2 ⟨v, fun _ w' _ hT => ld1_eq .. ▸ run_load1 h1 ((h.pure hT).cell hm.mem hv), k⟩
theorem tk_pldB {K : Value → Prop} (h : Hp S w0 w L) {hi : Nat} {ty : TypeId} {B : Nat} {cs : Array Value} {T : TypeId} {q : Nat} (hm : At L q (It.blk B cs T)) (ht : AggT P ty cs.size) (k : K (.agg cs)) :
    tk P (pT w) hi (ldS ty (.pointer (some ⟨B, 0, none⟩))) K := tk_iff.2 ⟨_, fun _ w' _ hT => ldS_eq .. ▸ run_ldA ht (by simp) (Blk.lies ((h.pure hT).ok _ hm.mem)), k⟩
theorem tk_pll {K : Value → Prop} {hi : Nat} {ty : TypeId} {n : Nat} (ht : AggT P ty n) {b o : Nat} {xs : List Value} (hn : xs.length = n) (hl : Lies w (some ⟨b, o, none⟩) xs) (k : K (.agg xs.toArray)) :
    tk P (pT w) hi (ldS ty (.pointer (some ⟨b, o, none⟩))) K := tk_iff.2 ⟨_, fun _ w' _ hT => ldS_eq .. ▸ run_ldA ht hn (hl.pure hT), k⟩
theorem tk_plc {K : Value → Prop} {hi : Nat} {ty : TypeId} {a : Addr} {v : Value} (h1 : ∀ w, (isAgg ty).run P w = .ok false w) (hc : w.cell? a = some v) (k : K v) :
    tk P (pT w) hi (ld1 ty (.pointer (some a))) K := tk_iff.2 ⟨_, fun _ w' _ hT => ld1_eq .. ▸ run_load1 h1 (hT.cell hc id), k⟩
/-- One block stays as it is. -/
def kT (B : Nat) (cs : Array Value) (T : TypeId) : Nat → World → Prop := fun _ w' => Blk w' B cs T
theorem drw_k {Bd : (Nat → World → Prop) → World → Prop} (h : Hp S w0 w L) {B : Nat} {cs : Array Value} {T : TypeId} {q : Nat} (hm : At L q (.blk B cs T)) (k : ∀ w1, Pure w w1 → Hp S w0 w1 L → Bd (kT B cs T) w1) : drw w Bd :=
  drw_iff.2 ⟨kT B cs T, h.drew.ok _ hm.mem, k _ (Only.refl _ _).drew h.drew⟩
theorem tk_k {K : Value → Prop} {hi : Nat} {ty : TypeId} {B i : Nat} {cs : Array Value} {T : TypeId} {v : Value} (h1 : ∀ w, (isAgg ty).run P w = .ok false w) (hv : cs.toList[i]? = some v) (k : K v) : tk P (kT B cs T) hi (ld1 ty (.pointer (some ⟨B, i, none⟩))) K :=
  tk_iff.2 ⟨v, fun _ w' _ hT => ld1_eq .. ▸ run_load1 h1 (Blk.cell hT (by simpa using hv)), k⟩
theorem ph_k {X : Prop} {p : Nat} (h : Hp S w0 w L) {B : Nat} {cs : Array Value} {T : TypeId} {q : Nat} (hm : At L q (.blk B cs T)) (k : X) : ph (kT B cs T) p w X := ph_iff.2 ⟨h.ok _ hm.mem, k⟩
end
def aggB (P : Program) (t : TypeId) (n : Nat) : Bool :=
  (match P.underlying t with
   | some (.struct _) => true
   | some (.array _ _) => true
   | _ => false) && (match P.info? t with | some i => Nat.beq i.size n | none => false)
theorem aggT {P : Program} {t : TypeId} {n : Nat} (h : aggB P t n = true) : AggT P t n := by
  unfold aggB at h
  rw [Bool.and_eq_true] at h
  obtain ⟨h1, h2⟩ := h
  refine ⟨?_, ?_⟩
  · cases hu : P.underlying t with
    | none => rw [hu] at h1; cases h1
    | some d => rw [hu] at h1; exact ⟨d, rfl, by cases d <;> first | rfl | cases h1⟩
  · cases hi : P.info? t with
    | none => rw [hi] at h2; cases h2
    | some i => rw [hi] at h2; rw [Option.map_some, beq_iff'.1 h2]
theorem val_at_bs {P : Program} {t : TypeId} {n : Nat} {ps : Array (Nat × Value)} {w : World} {K : Value → World → Prop} (h : val P (Instr.buildSlice t n ps) w K) : val P (Instr.buildSlice t n ps) w K := h
end Go.Proofs.YtipeanblfjimdaaDoor
