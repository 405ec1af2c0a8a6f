/- Ranges over iterators, in a walk with things in memory. No program in sight. -/
import Derived.Test.YtipeanblfjimdaaDoorVcH
namespace Go.Proofs.YtipeanblfjimdaaDoor
open Go Go.RowKit

/-- What is no cells in a thing lies below. -/
def It.low (base : Nat) : It → Prop
  | .gen F _ _ => ∀ k, F k → k < base
  | _ => True
/-- The mark of a range that is over. -/
def dfr (D : Nat) : It := .gen (fun k => k = D) (fun w => w.heap[D]? = some (.deferred (some []))) (fun _ _ h _ k => (h D rfl).trans k)
section
variable {P : Program} {S : Nat → Prop} {w0 w w' : World} {L : List It}
theorem It.cells {i : It} {W : World} {base k : Nat} (h : i.ok W) (hl : i.low base) (hk : i.fp k) : k < base ∨ ∃ o, W.heap[k]? = some o ∧ o.isCells = true := by
  cases i with
  | rows e s l =>
    obtain ⟨r, hr, hk⟩ := hk
    rcases (h r hr).2.2.2 with ⟨h0, _⟩ | ⟨g, cur, h0, hg, _⟩
    · rw [h0] at hk; cases hk
    · rw [h0] at hk
      have : g = k := Option.some.inj hk
      subst this; exact .inr ⟨_, hg, rfl⟩
  | blk B cs T => obtain rfl : k = B := hk; exact .inr ⟨_, h, rfl⟩
  | row e s a n c xs =>
    rcases h.2.2.2 with ⟨rfl, _⟩ | ⟨g, cur, rfl, hg, _⟩
    · cases hk
    · have : g = k := Option.some.inj hk
      subst this; exact .inr ⟨_, hg, rfl⟩
  | gen F φ st => exact .inl (hl k hk)
theorem Hp.grown {W W' : World} {row : Option Nat} {base : Nat} (h : Hp S w0 W L) (hg : W.grownBy W' row) (hr : ∀ r, row = some r → base ≤ r ∧ ∃ o : Obj, W.heap[r]? = some o ∧ o.isCells = false) (hb : w0.heap.size ≤ base) (hl : ∀ i ∈ L, i.low base) : Hp S w0 W' L :=
  ⟨h.only.far hg (fun r e => Nat.le_trans hb (hr r e).1), fun i hi => It.keep (h.ok i hi) hg.size (fun k hk => hg.block k (i.lt (h.ok i hi) hk) (fun e => by
      obtain ⟨h1, o, ho, hc⟩ := hr k e.symm
      rcases i.cells (h.ok i hi) (hl i hi) hk with h2 | ⟨o', ho', hc'⟩
      · omega
      · rw [ho] at ho'; cases ho'; rw [hc] at hc'; cases hc')), h.apart, h.own⟩
/-- What was made on the way from `w`. -/
theorem Hp.join {W W' : World} {L2 : List It} (h : Hp S w0 W L) (k : Hp (fun _ => False) W W' L2) : Hp S w0 W' (L2 ++ L) := by
  have h' := h.pure k.only
  refine ⟨h'.only, fun i hi => (List.mem_append.1 hi).elim (k.ok i) (h'.ok i), List.pairwise_append.2 ⟨k.apart, h.apart, fun a ha b hb q hq hq' => ?_⟩, fun i hi q hq => ?_⟩
  · have h1 := (k.own a ha q hq).resolve_right id
    have h2 := b.lt (h.ok b hb) hq'
    omega
  · rcases List.mem_append.1 hi with hi | hi
    · exact .inl (Nat.le_trans h.only.size ((k.own i hi q hq).resolve_right id))
    · exact h.own i hi q hq
theorem Hp.row (h : Hp S w0 w L) {e : TypeId} {size n cap : Nat} {a : Option Addr} {xs : List Value} {q : Nat} (hm : At L q (.row e size a n cap xs)) : Row w e size a n cap xs := h.ok _ hm.mem
theorem Hp.blk (h : Hp S w0 w L) {B : Nat} {cs : Array Value} {T : TypeId} {q : Nat} (hm : At L q (.blk B cs T)) : Blk w B cs T := h.ok _ hm.mem
theorem Hp.rowcell (h : Hp S w0 w L) {e : TypeId} {size b n cap j : Nat} {xs : List Value} {v : Value} {q : Nat} (hm : At L q (.row e size (some ⟨b, 0, none⟩) n cap xs)) (hv : xs[j]? = some v) : w.cell? ⟨b, j, none⟩ = some v := by
  have := (Row.lies (show Row w e size (some ⟨b, 0, none⟩) n cap xs from h.ok _ hm.mem)).at hv
  simpa using this
theorem val_ldr {K : Value → World → Prop} (h : Hp S w0 w L) {ty : TypeId} {e : TypeId} {size b n cap j : Nat} {xs : List Value} {v : Value} (h1 : ∀ w, (isAgg ty).run P w = .ok false w) {q : Nat} (hm : At L q (.row e size (some ⟨b, 0, none⟩) n cap xs)) (hv : xs[j]? = some v) (k : K v w) :
    val P (ld1 ty (.pointer (some ⟨b, j, none⟩))) w K := val_ldc h1 (h.rowcell hm hv) k
theorem rd_ldr {K : Value → Prop} (h : Hp S w0 w L) {ty : TypeId} {e : TypeId} {size b n cap j : Nat} {xs : List Value} {v : Value} (h1 : ∀ w, (isAgg ty).run P w = .ok false w) {q : Nat} (hm : At L q (.row e size (some ⟨b, 0, none⟩) n cap xs)) (hv : xs[j]? = some v) (k : K v) :
    rd P (ld1 ty (.pointer (some ⟨b, j, none⟩))) w K := rd_ldc h1 (h.rowcell hm hv) k
theorem Hp.below (h : Hp S w0 w L) : ∀ j ∈ L, ∀ k, j.fp k → k < w.heap.size := fun j hj _ hk => j.lt (h.ok j hj) hk
/-- A thing made behind `base` is apart from what lies where `L0` lay. -/
theorem Hp.addIn (h : Hp S w0 w L) {base : Nat} {L0 : List It} (hb : ∀ j ∈ L0, ∀ k, j.fp k → k < base) (he : L.map It.fp = L0.map It.fp) (hz : w0.heap.size ≤ base) {i : It} (hi : i.ok w) (hf : ∀ k, i.fp k → base ≤ k) : Hp S w0 w (i :: L) := by
  refine h.add hi (fun k hk => .inl (Nat.le_trans hz (hf k hk))) (fun j hj k hk hk' => ?_)
  have hm : j.fp ∈ L0.map It.fp := he ▸ List.mem_map_of_mem hj
  obtain ⟨j0, hj0, e⟩ := List.mem_map.1 hm
  have h1 := hb j0 hj0 k (e ▸ hk')
  have h2 := hf k hk
  omega
theorem Hp.pureFrom (h : Hp (fun _ => False) w0 w L) : Pure w0 w := h.only
theorem Hp.front {i : It} {L1 L2 : List It} (h : Hp S w0 w (L1 ++ i :: L2)) : Hp S w0 w (i :: (L1 ++ L2)) := h.perm List.perm_middle.symm
/-- The blocks that a round may change. -/
def rS (S : Nat → Prop) (w0 : World) (base : Nat) (T : Nat → Prop) (W : World) : Nat → Prop := fun k => (w0.heap.size ≤ k ∨ S k) ∧ ¬ T k ∧ ∀ o, W.heap[k]? = some o → base ≤ k → o.isCells = true
theorem Hp.round {W : World} {i : It} {base : Nat} (h : Hp S w0 W (i :: L)) (hl : ∀ j ∈ L, j.low base) : Hp (rS S w0 base i.fp W) W W L := by
  refine ⟨Only.refl _ _, fun j hj => h.ok j (List.mem_cons_of_mem _ hj), (List.pairwise_cons.1 h.apart).2, fun j hj k hk => .inr ⟨h.own j (List.mem_cons_of_mem _ hj) k hk, fun hi => (List.pairwise_cons.1 h.apart).1 j hj k hi hk, fun o ho hb => ?_⟩⟩
  rcases j.cells (h.ok j (List.mem_cons_of_mem _ hj)) (hl j hj) hk with h2 | ⟨o', ho', hc'⟩
  · omega
  · rw [ho] at ho'; cases ho'; exact hc'
theorem Hp.back {W W' : World} {i : It} {base : Nat} {L' : List It} (h : Hp S w0 W (i :: L)) (k : Hp (rS S w0 base i.fp W) W W' L') : Hp S w0 W' (i :: L') := by
  have hi := h.ok i (List.mem_cons_self ..)
  refine ⟨h.only.trans k.only (fun q hq hr => hr.1.resolve_left (by omega)), fun j hj => ?_, .cons (fun j hj q hq hq' => ?_) k.apart, fun j hj q hq => ?_⟩
  · rcases List.mem_cons.1 hj with rfl | hj
    · exact It.only hi k.only (fun q hq hr => hr.2.1 hq)
    · exact k.ok j hj
  · rcases k.own j hj q hq' with h1 | h1
    · have := i.lt hi hq; omega
    · exact h1.2.1 hq
  · rcases List.mem_cons.1 hj with rfl | hj
    · exact h.own _ (List.mem_cons_self ..) q hq
    · rcases k.own j hj q hq with h1 | h1
      · exact .inl (Nat.le_trans h.only.size h1)
      · exact h1.1
theorem Hp.keeps {W W' : World} {T : Nat → Prop} {base : Nat} {L' : List It} (k : Hp (rS S w0 base T W) W W' L') : KeepsFrom base W W' :=
  ⟨k.only.size, fun q o hq ho hc => (k.only.block q (Array.getElem?_eq_some_iff.1 ho).1 (fun hr => by have := hr.2.2 o ho hq; rw [hc] at this; cases this)).trans ho⟩
theorem Hp.keepT {Wb W W' : World} {T : Nat → Prop} {base : Nat} {L' : List It} (k : Hp (rS S w0 base T W) W W' L') (hz : Wb.heap.size ≤ W.heap.size) (hT : ∀ q, T q → W.heap[q]? = Wb.heap[q]?) (hlt : ∀ q, T q → q < W.heap.size) : KeepT T Wb W' :=
  ⟨Nat.le_trans hz k.only.size, fun q hq => (k.only.block q (hlt q hq) (fun hr => hr.2.1 hq)).trans (hT q hq)⟩
theorem asn_in {W W' : World} {base : Nat} {X : World → Prop} {L2 : List It} (h : Hp S w0 W L) (k : Hp (fun _ => False) W W' L2) (hb : w0.heap.size ≤ base) (hl : ∀ i ∈ L2 ++ L, i.low base)
    (hx : ∀ W2 : World, Hp S w0 W2 (L2 ++ L) → W.heap.size ≤ W2.heap.size → (∀ q, q < base → q < W.heap.size → W2.heap[q]? = W.heap[q]?) → X W2) : asn base W W' X := by
  refine asn_iff.2 ⟨k.only, fun l o o' hlb ho => ?_⟩
  have hj := h.join k
  refine hx _ (hj.grown (grownBy_putObj' W' l (.loop o')) (fun r e => by cases e; exact ⟨hlb, _, ho, rfl⟩) hb hl) (by simpa using k.only.size) (fun q hq hqw => ?_)
  rw [World.putObj_heap_other (by omega)]
  exact k.only.block q hqw id
theorem SqAt.weak {α : Type} {n : Nat} {gf : Nat} {lb : Array Value} {encs : α → Array Value} {T : Nat → Prop} {Pin Pin' : List α → α → World → Prop} {Sx Sp : List α → Prop} {W : World} (h : SqAt n P gf lb encs T Pin Sx Sp W) (hp : ∀ pre x W, Pin pre x W → Pin' pre x W) :
    SqAt n P gf lb encs T Pin' Sx Sp W := fun l J Jx hJ hJx hY h0 => h l J Jx hJ hJx (fun pre x W1 hj hpin => hY pre x W1 hj (hp _ _ _ hpin)) h0
def rI {α : Type} (S : Nat → Prop) (w0 : World) (base : Nat) (i : It) (J : List α → List It → Prop) (xs : List α) (W : World) : Prop := ∃ L, J xs L ∧ Hp S w0 W (i :: L) ∧ base ≤ W.heap.size
def rX {α : Type} (S : Nat → Prop) (w0 : World) (i : It) (Jx : Exit → List α → List It → Prop) (e : Exit) (xs : List α) (W : World) : Prop := ∃ L, Jx e xs L ∧ Hp S w0 W (i :: L)
theorem round_normal {α : Type} {i : It} {base : Nat} {J : List α → List It → Prop} {Jx : Exit → List α → List It → Prop} {xs : List α} {Wb W2 W3 : World} {L' L3 : List It} (h : Hp S w0 W2 (i :: L)) (k : Hp (rS S w0 base i.fp W2) W2 W3 L')
    (hz : Wb.heap.size ≤ W2.heap.size) (hb : base ≤ Wb.heap.size) (hT : ∀ q, i.fp q → W2.heap[q]? = Wb.heap[q]?) (hs : L3.Sublist L') (hj : J xs L3) : rPost base i.fp (rI S w0 base i J) (rX S w0 i Jx) xs Wb W2 .normal W3 := by
  refine ⟨k.keeps, k.keepT hz hT (fun q hq => i.lt (h.ok i (List.mem_cons_self ..)) hq), L3, hj, (h.back k).drop (.cons_cons _ hs), ?_⟩
  have := k.only.size; omega
theorem round_ret {α : Type} {i : It} {base : Nat} {J : List α → List It → Prop} {Jx : Exit → List α → List It → Prop} {xs : List α} {Wb W2 W3 : World} {L' L3 : List It} (h : Hp S w0 W2 (i :: L)) (k : Hp (rS S w0 base i.fp W2) W2 W3 L')
    (hs : L3.Sublist L') (hj : Jx .ret xs L3) : rPost base i.fp (rI S w0 base i J) (rX S w0 i Jx) xs Wb W2 .ret W3 := ⟨k.keeps, L3, hj, (h.back k).drop (.cons_cons _ hs)⟩
theorem round_exit {α : Type} {i : It} {base : Nat} {J : List α → List It → Prop} {Jx : Exit → List α → List It → Prop} {xs : List α} {Wb W2 W3 : World} {L' L3 : List It} {n : Nat} (h : Hp S w0 W2 (i :: L)) (k : Hp (rS S w0 base i.fp W2) W2 W3 L')
    (hs : L3.Sublist L') (hj : Jx (.exit n) xs L3) : rPost base i.fp (rI S w0 base i J) (rX S w0 i Jx) xs Wb W2 (.exit n) W3 := ⟨k.keeps, L3, hj, (h.back k).drop (.cons_cons _ hs)⟩
/-- A RANGE OVER AN ITERATOR, with things in memory: `i` is the iterator's own. -/
theorem rng_in {g : Value} {np : Nat} {B : (World → World → Exit → World → Prop) → Car np} {An : Nat → World → Prop} {Lx : List (Xt × (Nat → World → Prop))} {i : It} (H : Hp S w0 w (i :: L)) {α : Type} {gf : Nat} {lb : Array Value} (hg : g = .func (.func gf) #[] lb) (eg : Enters P gf)
    (encs : α → List Value) (Pin : List α → α → World → Prop) (Sx Sp : List α → Prop) (hps : ∀ x, (encs x).length = np)
    (hseq : ∀ W, i.ok W → w.heap.size ≤ W.heap.size → SqAt 0 P gf lb (fun x => (encs x).toArray) i.fp Pin Sx Sp W)
    (J : List α → List It → Prop) (Jx : Exit → List α → List It → Prop) (h0 : J [] L) (hJ : ∀ pre L, J pre L → ∀ j ∈ L, j.low w.heap.size) (hJx : ∀ e pre L, Jx e pre L → ∀ j ∈ L, j.low w.heap.size)
    (hbody : ∀ pre x W L, J pre L → Hp S w0 W (i :: L) → w.heap.size ≤ W.heap.size → Pin pre x W → app np (B (rPost w.heap.size i.fp (rI S w0 w.heap.size i J) (rX S w0 i Jx) (pre ++ [x]))) (encs x) W)
    (hdone : ∀ (D : Nat) (xs : List α) (W : World) (L : List It), Sx xs → J xs L → Hp S w0 W (dfr D :: i :: L) → w.heap.size ≤ D → An D W)
    (hstop : ∀ (D : Nat) (e : Exit) (pre : List α) (W : World) (L : List It), Sp pre → Jx e pre L → Hp S w0 W (dfr D :: i :: L) → w.heap.size ≤ D → pickX Lx e D W) : Rng P g np w B An Lx := by
  have hi : i.ok w := H.ok i (List.mem_cons_self ..)
  have hz : w0.heap.size ≤ w.heap.size := H.only.size
  have hil : i.low w.heap.size := by
    cases i with
    | gen F φ st => exact fun k hk => hi.2 k hk
    | _ => trivial
  have mark : ∀ {D : Nat} {W : World} {L : List It}, (∀ j ∈ L, j.low w.heap.size) → Hp S w0 W (i :: L) → w.heap.size ≤ D → W.heap[D]? = some (.deferred (some [])) → Hp S w0 W (dfr D :: i :: L) := by
    intro D W L hl h hD hd
    refine h.add (i := dfr D) ⟨hd, fun k hk => by obtain rfl : k = D := hk; exact (Array.getElem?_eq_some_iff.1 hd).1⟩ (fun k hk => by obtain rfl : k = D := hk; exact .inl (Nat.le_trans hz hD)) (fun j hj k hk hk' => ?_)
    obtain rfl : k = D := hk
    have hlj : j.low w.heap.size := by rcases List.mem_cons.1 hj with rfl | hj; exact hil; exact hl j hj
    rcases j.cells (h.ok j hj) hlj hk' with h2 | ⟨o, ho, hc⟩
    · omega
    · rw [hd] at ho; cases ho; cases hc
  have own : ∀ {β : Type} (J : β → List It → Prop), (∀ pre L, J pre L → ∀ j ∈ L, j.low w.heap.size) → OwnFrom w.heap.size (fun xs W => ∃ L, J xs L ∧ Hp S w0 W (i :: L)) := by
    intro β J hJ s A B row hs hg' hr
    obtain ⟨L, hj, hh⟩ := hs
    exact ⟨L, hj, hh.grown hg' hr hz (fun j hm => by rcases List.mem_cons.1 hm with rfl | hm; exact hil; exact hJ _ _ hj j hm)⟩
  refine .mk hg eg encs i.fp Pin Sx Sp (fun k hk => i.lt hi hk) (fun rec => hseq _ (It.only hi (((Only.refl (fun _ => False) w).alloc _).alloc _) (fun _ _ => id)) (by simp; omega)) hps
    (rI S w0 w.heap.size i J) (rX S w0 i Jx) ?_ (fun c => own (Jx c) (hJx c)) ⟨L, h0, H, Nat.le_refl _⟩ ?_ ?_ ?_
  · intro s A B row hs hg' hr
    obtain ⟨L, hj, hh, hsz⟩ := hs
    obtain ⟨L', hj', hh'⟩ := own J hJ s A B row ⟨L, hj, hh⟩ hg' hr
    exact ⟨L', hj', hh', Nat.le_trans hsz hg'.size⟩
  · rintro pre x W ⟨L, hj, hh, hsz⟩ hpin
    exact hbody pre x W L hj hh hsz hpin
  · rintro D xs W hD hS ⟨L, hj, hh, _⟩ hd
    exact hdone D xs W L hS hj (mark (hJ _ _ hj) hh hD hd) hD
  · rintro D e pre W hD hS ⟨L, hj, hh⟩ hd
    exact hstop D e pre W L hS hj (mark (hJx _ _ _ hj) hh hD hd) hD
/-- At the end the marks are taken away. -/
theorem fin_nil {X : World → Prop} (h : X w) : fin [] w X := by rw [fin_nil_eq]; exact h
theorem fin_cons {D : Nat} {ds : List Nat} {X : World → Prop} (h : Hp S w0 w L) {j : Nat} (hj' : At L j (dfr D)) (hD : w0.heap.size ≤ D) (k : ∀ w1 : World, Hp S w0 w1 (L.eraseIdx j) → fin ds w1 X) : fin (D :: ds) w X := by
  have hj := hj'.get
  have hd : w.heap[D]? = some (.deferred (some [])) := (h.get hj).1
  rw [fin_cons_eq]
  refine ⟨hd, k _ ?_⟩
  have hne : ∀ i ∈ L.eraseIdx j, ∀ q, i.fp q → q ≠ D := by
    intro i hi q hq e
    subst e
    obtain ⟨m, hm, hmj⟩ := List.mem_eraseIdx_iff_getElem?.1 hi
    have hm1 := List.getElem?_eq_some_iff.1 hmj
    have hj1 := List.getElem?_eq_some_iff.1 hj
    obtain ⟨hlm, em⟩ := hm1
    obtain ⟨hlj, ej⟩ := hj1
    rcases Nat.lt_or_gt_of_ne hm with h1 | h1
    · have := List.pairwise_iff_getElem.1 h.apart m j hlm hlj h1 q
      rw [em, ej] at this; exact this hq rfl
    · have := List.pairwise_iff_getElem.1 h.apart j m hlj hlm h1 q
      rw [em, ej] at this; exact this rfl hq
  refine ⟨⟨h.only.os, h.only.tape, h.only.output, by simpa using h.only.size, fun q hq hs => ?_⟩, fun i hi => ?_, h.apart.sublist (List.eraseIdx_sublist ..), fun i hi => h.own i (List.mem_of_mem_eraseIdx hi)⟩
  · rw [World.putObj_heap_other (by omega)]; exact h.only.block q hq hs
  · exact It.keep (h.ok i (List.mem_of_mem_eraseIdx hi)) (by simp) (fun q hq => World.putObj_heap_other (hne i hi q hq))
end
/-! ### Cells of rows are set -/
section
variable {P : Program} {S : Nat → Prop} {w0 w : World} {L : List It}
theorem Row.put1 {w : World} {e : TypeId} {size b n cap : Nat} {xs : List Value} (h : Row w e size (some ⟨b, 0, none⟩) n cap xs) (i : Nat) (v : Value) : Row (w.setCell ⟨b, i, none⟩ v) e size (some ⟨b, 0, none⟩) n cap (xs.set i v) := by
  obtain ⟨h1, h2, h3, h4⟩ := h
  rcases h4 with ⟨h4, _⟩ | ⟨g, cur, hg, hh, hs, ht⟩
  · cases h4
  · injection hg with hg; injection hg with hg; subst hg
    refine ⟨by simpa using h1, h2, h3, .inr ⟨b, cur.setIfInBounds i v, rfl, Blk.set (show Blk w b cur e from hh) i v, by simpa using hs, ?_⟩⟩
    rw [← ht, Array.toList_setIfInBounds, List.take_set]
theorem Row.thaw {w : World} {e : TypeId} {size b n cap : Nat} {xs : List Value} (h : Row w e size (some ⟨b, 0, none⟩) n cap xs) (i : Nat) : w.frozen? ⟨b, i, none⟩ = false := by
  rcases h.2.2.2 with ⟨h4, _⟩ | ⟨g, cur, hg, hh, hs, ht⟩
  · cases h4
  · injection hg with hg; injection hg with hg; subst hg
    exact Blk.frozen (show Blk w b cur e from hh) i
theorem unt_str {K : World → Prop} (h : Hp S w0 w L) {q : Nat} {ty e : TypeId} {size b n cap i : Nat} {xs : List Value} {v : Value} (hk' : At L q (.row e size (some ⟨b, 0, none⟩) n cap xs)) (hs : ∀ w, (sizeOf ty).run P w = .ok 1 w) (h1 : v.oneCell' = true) (hi : i < xs.length)
    (k : ∀ w1 : World, Only (fun x => x = b) w w1 → Hp S w0 w1 (L.set q (.row e size (some ⟨b, 0, none⟩) n cap (xs.set i v))) → K w1) : unt P (st1 ty (.pointer (some ⟨b, i, none⟩)) v) w K := by
  rw [st1_eq]
  have hr : Row w e size (some ⟨b, 0, none⟩) n cap xs := h.get hk'.get
  have hcl : v.cells = #[v] := by cases v <;> first | rfl | cases h1
  have hc := h.rowcell hk' (List.getElem?_eq_getElem hi)
  have ho : Only (fun x => x = b) w (w.setCell ⟨b, i, none⟩ v) := Only.setCell (S := fun x => x = b) (Only.refl _ _) (fun _ => rfl) v
  refine unt_ok (w1 := w.setCell ⟨b, i, none⟩ v) ?_ (k _ ho (h.upd hk'.get (ho.mono fun x _ hx => show ablk (some ⟨b, 0, none⟩) = some x from congrArg some hx.symm) (i' := .row e size (some ⟨b, 0, none⟩) n cap (xs.set i v)) (hr.put1 i v) (fun k hk => .inl hk)))
  simp [Instr.storeAt, Instr.sureAddr, storeVar, hcl, hs, storeCells, run_store P w ⟨b, i, none⟩ v _ h1, hc, hr.thaw i, Addr.add]
end
/-! ### Parts of slices -/
def subA (a : Option Addr) (cap l size : Nat) : Option Addr := if cap = l then a else a.map (·.add (l * size))
theorem subA_blk (a : Option Addr) (cap l size : Nat) : ablk (subA a cap l size) = ablk a := by
  unfold subA
  split
  · rfl
  · exact ablk_add _ _
theorem subA_zero (a : Option Addr) (cap size : Nat) : subA a cap 0 size = a := by
  unfold subA
  split
  · rfl
  · cases a with
    | none => rfl
    | some x => simp [Addr.add]
theorem subA_at {b o cap l size : Nat} (h : cap ≠ l) : subA (some ⟨b, o, none⟩) cap l size = some ⟨b, o + l * size, none⟩ := by
  unfold subA
  rw [if_neg h]
  by_cases h0 : l * size = 0
  · simp [h0, Addr.add]
  · simp [h0, Addr.add]
theorem Lies.sub {w : World} {a : Option Addr} {xs : List Value} (h : Lies w a xs) {cap l size : Nat} (hc : xs.length ≤ cap * size) : Lies w (subA a cap l size) (xs.drop (l * size)) := by
  unfold subA
  split
  · rename_i e
    subst e
    rw [List.drop_eq_nil_of_le hc]
    exact Lies.nil _ _
  · exact h.drop _
theorem run_sliceFrom {P : Program} {t e : TypeId} {size bytes : Nat} (he : ElemT P t e size bytes) {a : Option Addr} {n cap l : Nat} (h : l ≤ n) (w : World) :
    (Instr.sliceAt t (.slice a n cap) (some (.int .i64 l)) none none).run P w = .ok (.slice (subA a cap l size) (n - l) (cap - l)) w := by
  obtain ⟨ht, h0, i, z, hi, hz, hsize, hby, hzs⟩ := he
  have h1 : (0 : Int) ≤ (l : Int) ∧ (l : Int) ≤ (n : Int) := by omega
  simp [Instr.sliceAt, Instr.slice, Instr.sliceBounds, Instr.sliceBound, go_sem, run_underlying ht, sizeOf, typeInfo, hi, hsize, h, subA]
theorem run_sliceTo {P : Program} {t e : TypeId} {size bytes : Nat} (he : ElemT P t e size bytes) {a : Option Addr} {n cap l : Nat} (h : l ≤ cap) (w : World) :
    (Instr.sliceAt t (.slice a n cap) none (some (.int .i64 l)) none).run P w = .ok (.slice a l cap) w := by
  obtain ⟨ht, h0, i, z, hi, hz, hsize, hby, hzs⟩ := he
  have h1 : (0 : Int) ≤ (l : Int) ∧ (l : Int) ≤ (cap : Int) := by omega
  simp [Instr.sliceAt, Instr.slice, Instr.sliceBounds, Instr.sliceBound, go_sem, run_underlying ht, sizeOf, typeInfo, hi, h]
theorem run_slicePart {P : Program} {t e : TypeId} {size bytes : Nat} (he : ElemT P t e size bytes) {a : Option Addr} {n cap l m : Nat} (h : l ≤ m) (hm : m ≤ cap) (w : World) :
    (Instr.sliceAt t (.slice a n cap) (some (.int .i64 l)) (some (.int .i64 m)) none).run P w = .ok (.slice (subA a cap l size) (m - l) (cap - l)) w := by
  obtain ⟨ht, h0, i, z, hi, hz, hsize, hby, hzs⟩ := he
  have h1 : (0 : Int) ≤ (l : Int) ∧ (l : Int) ≤ (m : Int) := by omega
  simp [Instr.sliceAt, Instr.slice, Instr.sliceBounds, Instr.sliceBound, go_sem, run_underlying ht, sizeOf, typeInfo, hi, hsize, h, hm, subA]
end Go.Proofs.YtipeanblfjimdaaDoor
