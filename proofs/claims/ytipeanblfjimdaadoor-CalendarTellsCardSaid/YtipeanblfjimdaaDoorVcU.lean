/- Rows of structs, copies, slices that are made, appends onto full slices: in a walk. No program in sight. -/
import Derived.Test.YtipeanblfjimdaaDoorVcT
import Derived.Laws.CopyRow
import Derived.Laws.IdiomCopy
import Derived.Laws.MakeOwn
namespace Go.Proofs.YtipeanblfjimdaaDoor
open Go Go.RowKit

/-! ### Lists of parts of one length -/
section
variable {α β : Type} {f : α → List β} {n : Nat}
theorem flat_len (l : List α) (h : ∀ x ∈ l, (f x).length = n) : (l.flatMap f).length = l.length * n := by
  induction l with
  | nil => simp
  | cons x l ih => rw [List.flatMap_cons, List.length_append, h x (List.mem_cons_self ..), ih (fun y hy => h y (List.mem_cons_of_mem _ hy)), List.length_cons, Nat.add_mul]; omega
theorem flat_drop (l : List α) (h : ∀ x ∈ l, (f x).length = n) (i : Nat) : (l.flatMap f).drop (i * n) = (l.drop i).flatMap f := by
  induction l generalizing i with
  | nil => simp
  | cons x l ih =>
    cases i with
    | zero => simp
    | succ i =>
      rw [List.flatMap_cons, List.drop_succ_cons, ← ih (fun y hy => h y (List.mem_cons_of_mem _ hy)), Nat.add_mul, Nat.one_mul, Nat.add_comm, ← List.drop_drop, ← h x (List.mem_cons_self ..), List.drop_left]
theorem flat_take (l : List α) (h : ∀ x ∈ l, (f x).length = n) (i : Nat) : (l.flatMap f).take (i * n) = (l.take i).flatMap f := by
  induction l generalizing i with
  | nil => simp
  | cons x l ih =>
    cases i with
    | zero => simp
    | succ i =>
      have hx := h x (List.mem_cons_self ..)
      rw [List.flatMap_cons, List.take_succ_cons, List.flatMap_cons, ← ih (fun y hy => h y (List.mem_cons_of_mem _ hy)), Nat.add_mul, Nat.one_mul, Nat.add_comm, List.take_append, hx, List.take_of_length_le (by omega), Nat.add_sub_cancel_left]
theorem flat_part (l : List α) (h : ∀ x ∈ l, (f x).length = n) {i : Nat} (hi : i < l.length) : ((l.flatMap f).drop (i * n)).take n = f l[i] := by
  rw [flat_drop l h, List.drop_eq_getElem_cons hi, List.flatMap_cons]
  have := h l[i] (List.getElem_mem hi)
  rw [List.take_append_of_le_length (by omega), List.take_of_length_le (by omega)]
theorem flat_put (l : List α) (h : ∀ x ∈ l, (f x).length = n) {i : Nat} (hi : i < l.length) (y : α) : (l.set i y).flatMap f = (l.flatMap f).take (i * n) ++ f y ++ (l.flatMap f).drop ((i + 1) * n) := by
  rw [flat_take l h, flat_drop l h, List.set_eq_take_append_cons_drop, if_pos hi]
  simp
end
section
variable {P : Program} {S : Nat → Prop} {w0 w : World} {L : List It} {j : Nat}
/-- A struct out of a row. -/
theorem Hp.rowPart (h : Hp S w0 w L) {q : Nat} {e : TypeId} {size b n cap : Nat} {xs ys : List Value} (hm : At L q (.row e size (some ⟨b, 0, none⟩) n cap xs)) {o m : Nat} (hy : (xs.drop o).take m = ys) : Lies w (some ⟨b, o, none⟩) ys := by
  have hr : Row w e size (some ⟨b, 0, none⟩) n cap xs := h.ok _ hm.mem
  have := (hr.lies.dropAt o).take m
  rw [hy, Nat.zero_add] at this
  exact this
theorem val_ldrS {K : Value → World → Prop} (h : Hp S w0 w L) {q : Nat} {ty e : TypeId} {size b n cap : Nat} {xs ys : List Value} (hm : At L q (.row e size (some ⟨b, 0, none⟩) n cap xs)) {o m : Nat} (ht : AggT P ty m) (hy : (xs.drop o).take m = ys) (hl : ys.length = m) (k : K (.agg ys.toArray) w) :
    val P (ldS ty (.pointer (some ⟨b, o, none⟩))) w K := val_ldl ht hl (h.rowPart hm hy) k
/-- A struct into a row. -/
theorem unt_strS {K : World → Prop} (h : Hp S w0 w L) {q : Nat} {ty e : TypeId} {size b n cap i o : Nat} {xs ys zs : List Value} (hk' : At L q (.row e size (some ⟨b, 0, none⟩) n cap xs)) (ht : AggT P ty size) (hl : ys.length = size) (h1 : ∀ u ∈ ys, u.oneCell' = true) (hi : i < n) (ho : o = i * size)
    (hz : zs = xs.take (i * size) ++ ys ++ xs.drop ((i + 1) * size))
    (k : ∀ w1 : World, Only (fun x => x = b) w w1 → Hp S w0 w1 (L.set q (.row e size (some ⟨b, 0, none⟩) n cap zs)) → K w1) : unt P (stS ty (.pointer (some ⟨b, o, none⟩)) (.agg ys.toArray)) w K := by
  rw [stS_eq]
  subst ho
  subst hz
  have hr : Row w e size (some ⟨b, 0, none⟩) n cap xs := h.get hk'.get
  obtain ⟨cur, hb, hs, hput⟩ := hr.put
  have hle : (i + 1) * size ≤ cap * size := Nat.mul_le_mul_right _ (by have := hr.2.1; omega)
  rw [Nat.add_mul, Nat.one_mul] at hle
  have hst := run_storeVar_agg (P := P) (w := w) ht b (i * size) e cur hb ys hl h1 (by omega)
  have hon : Only (fun x => x = b) w (w.setRow b (putAt cur (i * size) ys)) := Only.setRow (S := fun x => x = b) (Only.refl _ _) (fun _ => rfl) _
  refine unt_ok (w1 := w.setRow b (putAt cur (i * size) ys)) ?_ (k _ hon (h.upd hk'.get (hon.mono fun x _ hx => show ablk (some ⟨b, 0, none⟩) = some x from congrArg some hx.symm) (i' := .row e size (some ⟨b, 0, none⟩) n cap (xs.take (i * size) ++ ys ++ xs.drop ((i + 1) * size))) (hput i ys hl hi) (fun k hk => .inl hk)))
  simpa [Instr.storeAt, Instr.sureAddr] using hst
/-! ### A slice of one struct -/
theorem fold_set (l : List Value) (off : Nat) : ∀ (k : Nat) (cs : Array Value), off + k + l.length ≤ cs.size →
    ((l.zipIdx k).foldl (fun cs p => cs.setIfInBounds (off + p.2) p.1) cs).toList = cs.toList.take (off + k) ++ l ++ cs.toList.drop (off + k + l.length) := by
  induction l with
  | nil => intro k cs h; simp
  | cons v l ih =>
    intro k cs h
    simp only [List.length_cons] at h
    rw [List.zipIdx_cons, List.foldl_cons, ih (k + 1) _ (by simp; omega)]
    simp only [Array.toList_setIfInBounds, List.length_cons]
    have hlt : off + k < cs.toList.length := by simp; omega
    rw [← Nat.add_assoc off k 1, List.take_set, List.drop_set, if_pos (by omega)]
    rw [List.take_succ_eq_append_getElem hlt, List.set_append_right _ _ (by simp; omega)]
    simp only [List.length_take, Nat.min_eq_left (Nat.le_of_lt hlt), Nat.sub_self, List.set_cons_zero, List.append_assoc, List.cons_append, List.nil_append]
    rw [show off + k + 1 + l.length = off + k + (l.length + 1) by omega]
theorem run_buildSlice1 {t e : TypeId} {size bytes : Nat} (he : ElemT P t e size bytes) {v : Value} (hv : v.cells.size = size) (hs : size ≤ 16777216) (w : World) :
    (Instr.buildSlice t 1 #[(0, v)]).run P w = .ok (.slice (some ⟨w.heap.size, 0, none⟩) 1 1) (w.alloc (.cells v.cells e)) := by
  obtain ⟨ht, h0, i, z, hi, hz, hsize, hby, hzs⟩ := he
  have hf : Instr.fill (fun i => some (i * size, size)) ((Array.range (1 * size)).map (z.cells[· % z.cells.size]!)) [(0, v)] = some v.cells := by
    simp only [Instr.fill]
    rw [if_neg (by simp [hv])]
    congr 1
    apply Array.ext'
    rw [← Array.foldl_toList, Array.toList_zipIdx]
    have := fold_set v.cells.toList (0 * size) 0 ((Array.range (1 * size)).map (z.cells[· % z.cells.size]!)) (by simp [hv])
    simp only [Nat.zero_mul, Nat.zero_add, Nat.add_zero] at this ⊢
    rw [this]
    simp [hv]
  have hne : ¬ (16777216 < size) := by omega
  have hz0 : size ≠ 0 := by omega
  simp only [Nat.one_mul] at hf
  simp [Instr.buildSlice, run_underlying ht, sizeOf, typeInfo, hi, hsize, hne, hz0, zeroValue, hz, hf, newRow]
theorem val_bs1 {K : Value → World → Prop} (h : Hp S w0 w L) {t e : TypeId} {size bytes : Nat} (he : ElemT P t e size bytes) {v : Value} (hv : v.cells.size = size) (hs : size ≤ 16777216)
    (k : ∀ (B : Nat) (w1 : World), w.heap.size = B → Pure w w1 → Hp S w0 w1 (.blk B v.cells e :: L) → K (.slice (some ⟨B, 0, none⟩) 1 1) w1) : val P (Instr.buildSlice t 1 #[(0, v)]) w K :=
  val_bs h (run_buildSlice1 he hv hs w) k
/-! ### Copies -/
theorem val_copyB {K : Value → World → Prop} (h : Hp S w0 w L) {q : Nat} {t ty e : TypeId} {bytes : Nat} (he : ElemT P t e 1 bytes) {B o dl dc : Nat} {cs : Array Value} {T : TypeId} (hk' : At L q (.blk B cs T)) {b : Option Addr} {m c : Nat} {ys : List Value} (hl : Lies w b ys) (hm : ys.length = m) (hd : m ≤ dl) (hfit : o + m ≤ cs.size) (h1 : ∀ u ∈ ys, u.oneCell' = true)
    (k : ∀ w1, Only (fun x => x = B) w w1 → Hp S w0 w1 (L.set q (.blk B (putAt cs o ys) T)) → K (.int .i64 m) w1) : val P (Builtin.copy_ #[t, t] ty #[.slice (some ⟨B, o, none⟩) dl dc, .slice b m c]) w K := by
  obtain ⟨ht, h0, i, z, hi, hz, hsize, hby, hzs⟩ := he
  have hs : (P.info? e).map (·.size) = some 1 := by rw [hi]; simp [hsize]
  have hb : Blk w B cs T := h.get hk'.get
  have hmin : Nat.min m dl = m := Nat.min_eq_left hd
  by_cases hy : ys = []
  · subst hy
    have hm0 : m = 0 := by simpa using hm.symm
    subst hm0
    have hr := run_copy_none (P := P) w t t ty e (some ⟨B, o, none⟩) b dl dc 0 c ht hs (Nat.zero_min _)
    have hp : putAt cs o [] = cs := by unfold putAt; simp
    refine val_ok hr ?_
    have h2 := h.upd hk'.get (Only.refl _ _) (i' := .blk B (putAt cs o []) T) (by rw [hp]; exact hb) (fun k hk => .inl hk)
    exact k w (Only.refl _ _) h2
  · obtain ⟨b', o', rfl, _, hc⟩ := hl.addr hy
    have hr := run_copy_row (P := P) w t t ty e B o dl dc ⟨b', o', none⟩ m c cs T ys ht hs hb (by rw [hmin]; exact hm) (fun j v hj => by
      rw [show (⟨b', o', none⟩ : Addr).add j = ⟨b', o' + j, none⟩ from by unfold Addr.add; split <;> simp_all]
      exact hc j v hj) (by omega) h1
    have hon : Only (fun x => x = B) w (w.setRow B (putAt cs o ys)) := Only.setRow (S := fun x => x = B) (Only.refl _ _) (fun _ => rfl) _
    rw [hm] at hr
    refine val_ok hr ?_
    exact k _ (by unfold putAt at hon; rw [hm] at hon; exact hon) (by
      have h2 := h.upd hk'.get hon (i' := .blk B (putAt cs o ys) T) hb.setRow (fun k hk => .inl hk)
      have e1 : (cs.toList.take o ++ ys ++ cs.toList.drop (o + m)).toArray = putAt cs o ys := by unfold putAt; rw [hm]
      rw [e1]
      exact h2)
/-! ### Slices that are made -/
theorem val_make {K : Value → World → Prop} (h : Hp S w0 w L) {t e : TypeId} {size bytes : Nat} (he : ElemT P t e size bytes) {n : Nat} (hb : n * bytes ≤ 281474976710656) (hn : n ≤ maxLen)
    (k : ∀ (B : Nat) (w1 : World), Pure w w1 → (∀ z, (P.info? e).bind (·.zero) = some z → Hp S w0 w1 (.row e size (some ⟨B, 0, none⟩) n n (List.replicate n z.cells.toList).flatten :: L)) → K (.slice (some ⟨B, 0, none⟩) n n) w1) : val P (Instr.makeSlice t (.int .i64 n) (.int .i64 n)) w K := by
  obtain ⟨ht, h0, i, z, hi, hz, hsize, hby, hzs⟩ := he
  have hb' : (i.bytes : Int) * (n : Int) ≤ 281474976710656 := by
    have hh : ((i.bytes * n : Nat) : Int) ≤ 281474976710656 := by rw [hby, Nat.mul_comm]; omega
    rwa [Int.natCast_mul] at hh
  have hr := run_make (P := P) w t e i z ht hi hz .i64 .i64 n n (by omega) (Int.le_refl _) hb' (by unfold maxLen at hn; omega)
  simp only [Int.toNat_natCast, hsize] at hr
  refine val_ok hr (k _ _ ((Only.refl _ _).alloc _) fun z' hz' => ?_)
  have : z' = z := by rw [hi] at hz'; simp [hz] at hz'; exact hz'.symm
  subst this
  have e1 : (madeCells z'.cells (n * size)).toList = (List.replicate n z'.cells.toList).flatten := by
    unfold madeCells
    apply List.ext_getElem?
    intro j
    by_cases hj : j < n * size
    · have hjs : j % size < size := Nat.mod_lt _ h0
      have hq : j / size < n := Nat.div_lt_of_lt_mul (by rw [Nat.mul_comm]; exact hj)
      have h2 := flat_part (f := id) (n := size) (List.replicate n z'.cells.toList) (fun x hx => by rw [(List.mem_replicate.1 hx).2]; simpa using hzs) (i := j / size) (by simpa using hq)
      have h3 : ((List.replicate n z'.cells.toList).flatten)[j]? = z'.cells.toList[j % size]? := by
        have h4 := congrArg (fun l => l[j % size]?) h2
        simp only [List.getElem?_take, if_pos hjs, List.getElem?_drop] at h4
        rw [show j / size * size + j % size = j by rw [Nat.mul_comm]; exact Nat.div_add_mod j size] at h4
        simpa [List.flatMap_id] using h4
      rw [h3]
      simp [hj, hzs, hjs]
    · rw [List.getElem?_eq_none (by simp; omega), List.getElem?_eq_none]
      have h2 := flat_len (f := id) (n := size) (List.replicate n z'.cells.toList) (fun x hx => by rw [(List.mem_replicate.1 hx).2]; simpa using hzs)
      simp only [List.flatMap_id, List.length_replicate] at h2
      omega
  have hnew := h.new (madeCells z'.cells (n * size)) e
  have := hnew.asRow .zero size n (by simp [madeCells]) hn
  rw [e1] at this
  exact this
/-! ### Appends onto a slice that has no room -/
theorem val_appF {K : Value → World → Prop} (h : Hp S w0 w L) {t ty e : TypeId} {size bytes : Nat} (he : ElemT P t e size bytes) {a : Option Addr} {n : Nat} {xs : List Value} (hxs : Lies w a xs) (hn : xs.length = n * size)
    {b : Option Addr} {m c : Nat} {ys : List Value} (hl : Lies w b ys) (hm : ys.length = m * size) (h1 : ∀ u ∈ ys, u.oneCell' = true) (hm0 : 0 < m) (h63 : n + m ≤ maxLen) (hbytes : (n + m) * bytes ≤ 140737488355328)
    (k : ∀ a' cap' w1, Pure w w1 → Hp S w0 w1 (.row e size a' (n + m) cap' (xs ++ ys) :: L) → K (.slice a' (n + m) cap') w1) :
    val P (Builtin.append_ #[t, t] ty #[.slice a n n, .slice b m c]) w K := by
  obtain ⟨ht, h0, i, z, hi, hz, hsize, hby, hzs⟩ := he
  subst hsize
  subst hby
  have hs := src_lies (c := c) ht h0 hm hl h1
  have hsmall : n + m ≤ 9223372036854775807 := by simp only [maxLen] at h63; omega
  have hold : (Builtin.firstCells i.size n (.slice a n n)).run P w.drew = .ok xs.toArray w.drew := by
    by_cases hx : xs = []
    · subst hx
      have hn0 : n = 0 := by
        rcases Nat.eq_zero_or_pos n with h' | h'
        · exact h'
        · have := Nat.mul_pos h' h0; simp at hn; omega
      subst hn0
      cases a with
      | none => exact run_firstCells_none w.drew i.size 0 0 0
      | some ad => exact run_firstCells_some w.drew i.size 0 ad 0 0 [] (by simp) (by simp)
    · obtain ⟨b', o', rfl, _, hc⟩ := hxs.addr hx
      exact run_firstCells_some w.drew i.size n ⟨b', o', none⟩ n n xs hn (fun j u hj => by
        rw [show (⟨b', o', none⟩ : Addr).add j = ⟨b', o' + j, none⟩ from by unfold Addr.add; split <;> simp_all]
        exact hc j u hj)
  have hr := run_append_grow_src (P := P) w t t ty e i z ht hi hz a n n xs hold _ m ys hs (by omega) (by omega) (growslice_fits (by omega) hbytes)
  have hge := grownCap_ge w (n + m) n e
  have hlen : (xs ++ ys).length = (n + m) * i.size := by rw [List.length_append, hn, hm, Nat.add_mul]
  refine val_ok hr (k _ _ _ ?_ ?_)
  · exact (Only.refl _ _).drew.alloc _
  · refine h.fresh (i := .row e i.size _ (n + m) _ (xs ++ ys)) ((Only.refl _ _).drew.alloc _) ?_ (fun q hq => ?_)
    · refine ⟨hlen, hge, grownCap_le_maxLen w (n + m) n e h63, .inr ⟨w.heap.size, _, rfl, heap_alloc_new w.drew _, ?_, ?_⟩⟩
      · simp only [Array.size_append, List.size_toArray, size_zeroCells, hzs, hlen, ← Nat.add_mul]
        congr 1
        omega
      · simp only [Array.toList_append]
        rw [← hlen]
        exact List.take_left
    · have : some w.heap.size = some q := hq
      injection this with this
      omega
/-- An item that goes to the head of the list. -/
theorem At.front {L : List It} {j : Nat} {i : It} (h : At L j i) (i' : It) : (i' :: L.eraseIdx j).Perm (L.set j i') := by
  induction h with
  | zero => exact List.Perm.refl _
  | succ h ih => exact (List.Perm.swap _ _ _).trans (ih.cons _)
theorem Hp.back1 {j : Nat} {i i' : It} (H : Hp S w0 w (i' :: L.eraseIdx j)) (h : At L j i) : Hp S w0 w (L.set j i') := H.perm (h.front i').symm
/-! ### A call that changes one thing alone -/
theorem Hp.one {i : It} (h : i.ok w) : Hp i.fp w w [i] :=
  ⟨Only.refl _ _, fun x hx => by rw [List.mem_singleton.1 hx]; exact h, List.pairwise_singleton _ _, fun x hx k hk => by rw [List.mem_singleton.1 hx] at hk; exact .inr hk⟩
theorem Hp.frame0 {w' : World} {i : It} {N M : List It} (H : Hp S w0 w (i :: M)) (H2 : Hp i.fp w w' N) : Hp S w0 w' (N ++ M) := by
  have hap := List.pairwise_cons.1 H.apart
  have hown := H.own i (List.mem_cons_self ..)
  refine ⟨H.only.trans H2.only (fun k hk hik => (hown k hik).resolve_left (by omega)), fun x hx => ?_, List.pairwise_append.2 ⟨H2.apart, hap.2, fun x hx y hy k hk hk' => ?_⟩, fun x hx k hk => ?_⟩
  · rcases List.mem_append.1 hx with hx | hx
    · exact H2.ok x hx
    · exact It.only (H.ok x (List.mem_cons_of_mem _ hx)) H2.only (fun k hk hik => hap.1 x hx k hik hk)
  · rcases H2.own x hx k hk with h | h
    · have := y.lt (H.ok y (List.mem_cons_of_mem _ hy)) hk'; omega
    · exact hap.1 y hy k h hk'
  · rcases List.mem_append.1 hx with hx | hx
    · rcases H2.own x hx k hk with h | h
      · exact .inl (Nat.le_trans H.only.size h)
      · exact hown k h
    · exact H.own x (List.mem_cons_of_mem _ hx) k hk
theorem Hp.toFront {i : It} (H : Hp S w0 w L) (hk : At L j i) : Hp S w0 w (i :: L.eraseIdx j) := by
  have hset : L.set j i = L := by
    obtain ⟨hlt, he⟩ := List.getElem?_eq_some_iff.1 hk.get
    rw [← he, List.set_getElem_self]
  have hp := hk.front i
  rw [hset] at hp
  exact H.perm hp
theorem Hp.frame {w' : World} {i i' : It} {N : List It} (H : Hp S w0 w L) (hk : At L j i) (H2 : Hp i.fp w w' (i' :: N)) : Hp S w0 w' (N ++ L.set j i') := by
  have h := (H.toFront hk).frame0 H2
  refine h.perm ?_
  refine (List.Perm.append_left N (hk.front i').symm).trans ?_
  rw [List.cons_append]
  exact List.perm_middle
theorem Hp.frame1 {w' : World} {i i' : It} (H : Hp S w0 w L) (hk : At L j i) (H2 : Hp i.fp w w' [i']) : Hp S w0 w' (L.set j i') := by
  simpa using H.frame hk H2
/-- What lies in another thing, or in old memory, is not touched. -/
theorem Hp.off {i : It} (H : Hp (fun _ => False) w0 w L) (hk : At L j i) {a : Option Addr} {xs : List Value} (hl : Lies w0 a xs) (hx : xs ≠ []) : ∀ q, ablk a = some q → ¬ i.fp q := by
  intro q hq hf
  obtain ⟨b, o, rfl, hb, _⟩ := hl.addr hx
  have : q = b := by simpa [ablk] using hq.symm
  subst this
  rcases H.own i hk.mem q hf with h | h
  · omega
  · exact h
/-! ### Regions whose first phases change nothing -/
def uT (w : World) (h : Nat) : Nat → World → Prop := fun p w' => p ≤ h → Pure w w'
theorem drw_u {B : (Nat → World → Prop) → World → Prop} (H : Hp S w0 w L) (h : Nat) (k : ∀ w1, Pure w w1 → Hp S w0 w1 L → B (uT w1 h) w1) : drw w B := drw_iff.2 ⟨uT w.drew h, fun _ => Only.refl _ _, k _ (Only.refl _ _).drew H.drew⟩
theorem ph_u {w' : World} {X : Prop} {p h : Nat} (hp : Pure w w') (k : X) : ph (uT w h) p w' X := ph_iff.2 ⟨fun _ => hp, k⟩
theorem ph_v {w' : World} {X : Prop} {p h : Nat} (hp : h < p) (k : X) : ph (uT w h) p w' X := ph_iff.2 ⟨fun hh => by omega, k⟩
theorem tk_uld {K : Value → Prop} (H : Hp S w0 w L) {hi h : Nat} (hh : hi ≤ h) {ty : TypeId} {B i : Nat} {cs : Array Value} {T : TypeId} {v : Value} (h1 : ∀ w, (isAgg ty).run P w = .ok false w) {q : Nat} (hm : At L q (It.blk B cs T)) (hv : cs.toList[i]? = some v) (k : K v) :
    tk P (uT w h) hi (ld1 ty (.pointer (some ⟨B, i, none⟩))) K := tk_iff.2 ⟨v, fun p w' hp hT => ld1_eq .. ▸ run_load1 h1 ((H.pure (hT (Nat.le_trans hp hh))).cell hm.mem hv), k⟩
theorem tk_uldB {K : Value → Prop} (H : Hp S w0 w L) {hi h : Nat} (hh : hi ≤ h) {ty : TypeId} {B : Nat} {cs : Array Value} {T : TypeId} {q : Nat} (hm : At L q (It.blk B cs T)) (ht : AggT P ty cs.size) (k : K (.agg cs)) :
    tk P (uT w h) hi (ldS ty (.pointer (some ⟨B, 0, none⟩))) K := tk_iff.2 ⟨_, fun p w' hp hT => ldS_eq .. ▸ run_ldA ht (by simp) (Blk.lies ((H.pure (hT (Nat.le_trans hp hh))).ok _ hm.mem)), k⟩
theorem tk_ull {K : Value → Prop} {hi h : Nat} (hh : hi ≤ h) {ty : TypeId} {n : Nat} (ht : AggT P ty n) {b o : Nat} {xs : List Value} (hn : xs.length = n) (hl : Lies w (some ⟨b, o, none⟩) xs) (k : K (.agg xs.toArray)) :
    tk P (uT w h) hi (ldS ty (.pointer (some ⟨b, o, none⟩))) K := tk_iff.2 ⟨_, fun p w' hp hT => ldS_eq .. ▸ run_ldA ht hn (hl.pure (hT (Nat.le_trans hp hh))), k⟩
theorem tk_upu {K : Value → Prop} {hi h : Nat} {s : Sem Value} {v : Value} (hs : ∀ w, s.run P w = .ok v w) (k : K v) : tk P (uT w h) hi s K := tk_iff.2 ⟨v, fun p w' _ _ => hs w', k⟩
end
end Go.Proofs.YtipeanblfjimdaaDoor
