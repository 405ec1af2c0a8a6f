/- A generator of verification conditions: code, loops, ranges over iterators, functions. No program in sight. -/
import Derived.Test.YtipeanblfjimdaaDoorVcB
import Derived.Test.YtipeanblfjimdaaDoorSq
import Derived.RangeFuncLeaves
namespace Go.Proofs.YtipeanblfjimdaaDoor
open Go Go.RowKit

/-! ### Conditions on so many values and a world -/
def Car : Nat → Type
  | 0 => World → Prop
  | n + 1 => Value → Car n
def lam : (n : Nat) → (List Value → World → Prop) → Car n
  | 0, f => f []
  | n + 1, f => fun v => lam n (fun vs => f (v :: vs))
def app : (n : Nat) → Car n → List Value → World → Prop
  | 0, c, [] => c
  | 0, _, _ :: _ => fun _ => False
  | _ + 1, _, [] => fun _ => False
  | n + 1, c, v :: vs => app n (c v) vs
theorem app_lam : ∀ {n : Nat} {vs : List Value} {f : List Value → World → Prop}, vs.length = n → app n (lam n f) vs = f vs
  | 0, [], _, _ => rfl
  | 0, _ :: _, _, h => by simp at h
  | _ + 1, [], _, h => by simp at h
  | n + 1, v :: vs, f, h => by
    show app n (lam n fun vs => f (v :: vs)) vs = _
    rw [app_lam (by simpa using h)]
theorem app_len : ∀ {n : Nat} {c : Car n} {vs : List Value} {w : World}, app n c vs w → vs.length = n
  | 0, _, [], _, _ => rfl
  | 0, _, _ :: _, _, h => h.elim
  | _ + 1, _, [], _, h => h.elim
  | n + 1, c, v :: vs, w, h => by
    have := app_len (n := n) (c := c v) (vs := vs) h
    simp [this]

/-! ### What code writes -/
def wrOps (ops : List Oper) (i : Nat) : Bool := ops.any fun o => match o.dst with | some d => Nat.beq d i | none => false
def wr : Code → Nat → Bool
  | .region _ ops _, i => wrOps ops.toList i
  | .seq a b, i => wr a i || wr b i
  | .cond _ a b, i => wr a i || wr b i
  | .block _ b, i => wr b i
  | .loop b, i => wr b i
  | _, _ => false
def noRf : Code → Bool
  | .seq a b => noRf a && noRf b
  | .cond _ a b => noRf a && noRf b
  | .block _ b => noRf b
  | .loop b => noRf b
  | .rangeFunc .. => false
  | _ => true
def Env.wo (E : Env) (c : Code) (ds : List Nat) : Env := { get := fun i => bif wr c i then none else E.get i, ds := ds }
def Env.bind (E : Env) : List Nat → List Value → Env
  | s :: ss, v :: vs => (E.bind ss vs).put (some s) (.va v)
  | _, _ => E
def Env.bindP : Env → List Nat → List Value → Env
  | E, p :: ps, v :: vs => (E.put (some p) (.va v)).bindP ps vs
  | E, _, _ => E
def valsK (E : Env) : List Nat → (List Value → Prop) → Prop
  | [], k => k []
  | s :: ss, k => match E.get s with
    | some e => valsK E ss fun vs => k (e.val :: vs)
    | none => False
/-- The frame behind `c`, as it was ahead of it but for what `c` writes. -/
structure Same (c : Code) (a a' : Act) : Prop where
  tmps : ∀ i, wr c i = false → a'.tmps[i]? = a.tmps[i]?
  size : a'.tmps.size = a.tmps.size
  defs : noRf c = true → a'.defers = a.defers
theorem Env.bind_ds (E : Env) : ∀ (ss : List Nat) (vs : List Value), (E.bind ss vs).ds = E.ds
  | [], _ => rfl
  | _ :: _, [] => rfl
  | _ :: ss, _ :: vs => Env.bind_ds E ss vs
theorem bind_get (E : Env) : ∀ (ss : List Nat) (vs : List Value) (i : Nat) (e : Ent), (E.bind ss vs).get i = some e → (∃ (k : Nat) (v : Value), ss[k]? = some i ∧ vs[k]? = some v ∧ e = .va v) ∨ E.get i = some e
  | [], _, i, e, h => .inr h
  | _ :: _, [], i, e, h => .inr h
  | s :: ss, v :: vs, i, e, h => by
    simp only [Env.bind, Env.put] at h
    by_cases hi : i = s
    · subst hi
      simp only [Nat.beq_refl, cond_true, Option.some.injEq] at h
      exact .inl ⟨0, v, rfl, rfl, h.symm⟩
    · have : Nat.beq i s = false := by
        cases hb : Nat.beq i s with
        | false => rfl
        | true => exact absurd (Nat.eq_of_beq_eq_true hb) hi
      rw [this] at h
      rcases bind_get E ss vs i e h with ⟨k, v', h1, h2, h3⟩ | h
      · exact .inl ⟨k + 1, v', h1, h2, h3⟩
      · exact .inr h
theorem valsK_spec {N : Nat} {E : Env} {a : Act} (hfit : Fits N E a) : ∀ {ss : List Nat} {k : List Value → Prop}, valsK E ss k → ∃ vs, k vs ∧ vs.length = ss.length ∧ ∀ (j s : Nat) (v : Value), ss[j]? = some s → vs[j]? = some v → a.tmps[s]? = some v
  | [], k, h => ⟨[], h, rfl, fun j s v hs => by simp at hs⟩
  | s :: ss, k, h => by
    unfold valsK at h
    cases he : E.get s with
    | none => rw [he] at h; exact h.elim
    | some e =>
      rw [he] at h
      obtain ⟨vs, h1, h2, h3⟩ := valsK_spec hfit h
      refine ⟨e.val :: vs, h1, by simp [h2], fun j s' v hs hv => ?_⟩
      cases j with
      | zero => simp at hs hv; subst hs; subst hv; exact hfit.get _ _ he
      | succ j => exact h3 j s' v hs hv
theorem Fits.bind {N : Nat} {E E' : Env} {a a' : Act} {c : Code} {ss : List Nat} {vs : List Value} (hfit : Fits N E a) (hs : Same c a a') (hd : a'.defers = E'.ds.map coll)
    (hv : ∀ (j s : Nat) (v : Value), ss[j]? = some s → vs[j]? = some v → a'.tmps[s]? = some v) : Fits N ((E.wo c E'.ds).bind ss vs) a' := by
  refine ⟨fun i e hi => ?_, by rw [hs.size]; exact hfit.size, by rw [Env.bind_ds]; exact hd⟩
  rcases bind_get _ ss vs i e hi with ⟨k, v, h1, h2, rfl⟩ | h
  · exact hv k i v h1 h2
  · simp only [Env.wo] at h
    cases hw : wr c i with
    | true => rw [hw] at h; cases h
    | false => rw [hw] at h; rw [hs.tmps i hw]; exact hfit.get i e h

/-! ### Joins and loops -/
/-- What follows is told once: at a condition of one's own choice. -/
def joinK (n : Nat) (R : Car n) (B : Car n → Prop) : Prop := ∃ J : Car n, (∀ vs w, app n J vs w → app n R vs w) ∧ B J
def joinD (n : Nat) (R : List Nat → Car n) (B : (List Nat → Car n) → Prop) : Prop := ∃ J : List Nat → Car n, (∀ ds vs w, app n (J ds) vs w → app n (R ds) vs w) ∧ B J
def loopK (n : Nat) (init : List Value) (w : World) (body : Car n → Car n) : Prop :=
  ∃ (I : Car n) (μ : List Value → World → Nat), app n I init w ∧ ∀ vs w, app n I vs w → app n (body (lam n fun vs' w' => app n I vs' w' ∧ μ vs' w' < μ vs w)) vs w
def loopD (n : Nat) (ds : List Nat) (init : List Value) (w : World) (body : (List Nat → Car n) → List Nat → Car n) : Prop :=
  ∃ (I : List Nat → Car n) (μ : List Value → World → Nat), app n (I ds) init w ∧ ∀ ds vs w, app n (I ds) vs w → app n (body (fun ds' => lam n fun vs' w' => app n (I ds') vs' w' ∧ μ vs' w' < μ vs w) ds) vs w

/-! ### A range over an iterator -/
/-- Behind the assignment of a round's variables the record of the loop is turned. -/
def asn (n0 : Nat) (W W' : World) (X : World → Prop) : Prop := Pure W W' ∧ ∀ (l : Nat) (o o' : Loop), n0 ≤ l → W'.heap[l]? = some (.loop o) → X (W'.putObj l (.loop o'))
def rPost {α : Type} (B : Nat) (T : Nat → Prop) (I : List α → World → Prop) (Ix : Exit → List α → World → Prop) (xs : List α) (Wb W : World) : Exit → World → Prop
  | .normal, W' => KeepsFrom B W W' ∧ KeepT T Wb W' ∧ I xs W'
  | .ret, W' => KeepsFrom B W W' ∧ Ix .ret xs W'
  | .exit id, W' => KeepsFrom B W W' ∧ Ix (.exit id) xs W'
  | .goto t, W' => KeepsFrom B W W' ∧ Ix (.goto t) xs W'
  | _, _ => False
inductive Xt where
  | rt
  | ex (i : Nat)
def Xt.exit : Xt → Exit
  | .rt => .ret
  | .ex i => .exit i
def pickX : List (Xt × (Nat → World → Prop)) → Exit → Nat → World → Prop
  | (.rt, f) :: _, .ret, D, W => f D W
  | (.ex i, f) :: r, .exit j, D, W => bif Nat.beq i j then f D W else pickX r (.exit j) D W
  | _ :: r, e, D, W => pickX r e D W
  | [], _, _, _ => False
inductive Rng (P : Program) (g : Value) (np : Nat) (w : World) (B : (World → World → Exit → World → Prop) → Car np) (An : Nat → World → Prop) (L : List (Xt × (Nat → World → Prop))) : Prop
  | mk {α : Type} {gf : Nat} {lb : Array Value} (hg : g = .func (.func gf) #[] lb) (eg : Enters P gf) (encs : α → List Value) (T : Nat → Prop) (Pin : List α → α → World → Prop) (S Sp : List α → Prop)
      (hT : ∀ k, T k → k < w.heap.size) (hseq : ∀ rec : Loop, SqAt 0 P gf lb (fun x => (encs x).toArray) T Pin S Sp ((w.alloc (.deferred (some []))).alloc (.loop rec)))
      (hps : ∀ x, (encs x).length = np) (I : List α → World → Prop) (Ix : Exit → List α → World → Prop) (hI : OwnFrom w.heap.size I) (hIx : ∀ c, OwnFrom w.heap.size (Ix c)) (h0 : I [] w)
      (hbody : ∀ pre x W, I pre W → Pin pre x W → app np (B (rPost w.heap.size T I Ix (pre ++ [x]))) (encs x) W)
      (hdone : ∀ (D : Nat) (xs : List α) (W : World), w.heap.size ≤ D → S xs → I xs W → W.heap[D]? = some (.deferred (some [])) → An D W)
      (hstop : ∀ (D : Nat) (e : Exit) (pre : List α) (W : World), w.heap.size ≤ D → Sp pre → Ix e pre W → W.heap[D]? = some (.deferred (some [])) → pickX L e D W) : Rng P g np w B An L

/-! ### Code -/
inductive Ann where
  | leaf
  | draw (l : St)
  | seq (a b : Ann)
  | join (ss : List Nat) (a b : Ann)
  | cond (a b : Ann)
  | one (a : Ann)
  | loop (ss : List Nat) (a : Ann)
  | rng (es : List Xt) (a b : Ann)
def thenQ (K : Env → World → Prop) (Q : Exit → Env → World → Prop) : Exit → Env → World → Prop
  | .normal, E, w => K E w
  | e, E, w => Q e E w
def inB (id : Nat) (Q : Exit → Env → World → Prop) : Exit → Env → World → Prop
  | .exit i, E, w => bif Nat.beq i id then Q .normal E w else Q (.exit i) E w
  | e, E, w => Q e E w
def okS (c : Code) (ss : List Nat) : Bool := ss.all fun s => wr c s
def Env.know (E : Env) (x : Operand) (b : Bool) : Env :=
  match x with
  | .tmp t => E.put (some t) (.bo b)
  | _ => E
def vc (P : Program) (top : Bool) : Code → Ann → Env → (Exit → Env → World → Prop) → World → Prop
  | .skip, _, E, Q, w => Q .normal E w
  | .label _, _, E, Q, w => Q .normal E w
  | .exit id, _, E, Q, w => Q (.exit id) E w
  | .ret, _, E, Q, w => Q .ret E w
  | .region _ ops dr, ann, E, Q, w => bif dr then
      match ann with
      | .draw l => bif drawOk ops.toList l then drw w fun T w' => vcD P ops.toList T l 0 E w' (Q .normal) else False
      | _ => False
    else vcOps P ops.toList ops.toList E w (Q .normal)
  | .seq a b, .seq x y, E, Q, w => vc P top a x E (thenQ (vc P top b y · Q ·) Q) w
  | .seq a b, .join ss x y, E, Q, w => bif okS a ss then
      bif noRf a then
        joinK ss.length (lam ss.length fun vs w => vc P top b y ((E.wo a E.ds).bind ss vs) Q w) fun j => vc P top a x E (thenQ (fun E' w' => valsK E' ss fun vs => app ss.length j vs w') Q) w
      else
        joinD ss.length (fun ds => lam ss.length fun vs w => vc P top b y ((E.wo a ds).bind ss vs) Q w) fun j => vc P top a x E (thenQ (fun E' w' => valsK E' ss fun vs => app ss.length (j E'.ds) vs w') Q) w
      else False
  | .cond c a b, .cond x y, E, Q, w => match E.ent c with
    | some (.bo t) => bif t then vc P top a x E Q w else vc P top b y E Q w
    | some (.va v) => gd v true (vc P top a x (E.know c true) Q w) (vc P top b y (E.know c false) Q w)
    | _ => False
  | .block id c, .one x, E, Q, w => vc P top c x E (inB id Q) w
  | .loop c, .loop ss x, E, Q, w => bif okS c ss then valsK E ss fun vs =>
      bif noRf c then
        loopK ss.length vs w fun next => lam ss.length fun vs w => vc P top c x ((E.wo c E.ds).bind ss vs) (thenQ (fun E' w' => valsK E' ss fun vs' => app ss.length next vs' w') Q) w
      else
        loopD ss.length E.ds vs w fun next ds => lam ss.length fun vs w => vc P top c x ((E.wo c ds).bind ss vs) (thenQ (fun E' w' => valsK E' ss fun vs' => app ss.length (next E'.ds) vs' w') Q) w
      else False
  | .rangeFunc g ps asg body, .rng es x y, E, Q, w => bif top then
      match E.ent g with
      | some e => Rng P e.val ps.toList.length w
          (fun q => lam ps.toList.length fun vs W => vc P false asg x (({ E with ds := [] } : Env).bindP ps.toList vs) (thenQ (fun E' W' => asn w.heap.size W W' fun W2 => vc P false body y E' (fun e _ W3 => q W W2 e W3) W2) fun _ _ _ => False) W)
          (fun D W => Q .normal { E with ds := D :: E.ds } W) (es.map fun x => (x, fun D W => Q x.exit { E with ds := D :: E.ds } W))
      | none => False
    else False
  | _, _, _, _, _ => False
def codeOk (N : Nat) : Code → Bool
  | .region _ ops _ => dstsOk N ops.toList
  | .seq a b => codeOk N a && codeOk N b
  | .cond _ a b => codeOk N a && codeOk N b
  | .block _ b => codeOk N b
  | .loop b => codeOk N b
  | .rangeFunc _ ps a b => (ps.toList.all fun p => Nat.blt p N) && codeOk N a && codeOk N b
  | _ => true

/-! ### The range's law, for code that meets its conditions -/
variable {F : Fence} {n : Nat} {P : Program}
inductive Jmp : Code → Exit → Prop
  | ret : Jmp .ret .ret
  | exit (i : Nat) : Jmp (.exit i) (.exit i)
  | goto (t : Nat) : Jmp (.goto t) (.goto t)
theorem range_vc {g : Operand} {ps : Array Tmp} {assign body : Code} {Q : Exit → Act → World → Prop} {a : Act} {w : World} {gv : Value} (hgv : a.eval g = gv)
    {B : (World → World → Exit → World → Prop) → Car ps.toList.length} {An : Nat → World → Prop} {L : List (Xt × (Nat → World → Prop))} (h : Rng P gv ps.toList.length w B An L)
    (hrun : ∀ (l : Nat) (vs : List Value) (W : World) (q : World → World → Exit → World → Prop), vs.length = ps.toList.length → app ps.toList.length (B q) vs W →
      assign.wpIn (Fence.wide.inRound l) 0 P (Exit.then (fun a' W' => asn w.heap.size W W' fun W2 => body.wpIn (Fence.wide.inRound l) 0 P (fun e _ W3 => q W W2 e W3) a' W2) (fun _ _ _ => False))
        { tmps := (ps.zip vs.toArray).foldl (fun t (p, v) => t.setIfInBounds p v) a.tmps, defers := [] } W)
    (hAn : ∀ (D : Nat) (W : World), An D W → Q .normal { a with defers := coll D :: a.defers } W) (hA : ∀ (D : Nat) (e : Exit) (W : World), pickX L e D W → Q e { a with defers := coll D :: a.defers } W) :
    (Code.rangeFunc g ps assign body).wpIn Fence.wide 2 P Q a w := by
  obtain @⟨α, gf, lb, hg, eg, encs, T, Pin, S, Sp, hT, hseq, hps, I, Ix, hI, hIx, h0, hbody, hdone, hstop⟩ := h
  rw [hg] at hgv
  refine wpIn_rangeFunc ?_
  intro fn _
  obtain ⟨rec, hrec⟩ : ∃ rec : LoopState → Option Code → Loop, rec = fun st pe => { state := st, pending := pe, fn, tmps := a.tmps, params := ps, assign, body, defers := w.heap.size } := ⟨_, rfl⟩
  obtain ⟨W1, hW1⟩ : ∃ W1, (w.alloc (.deferred (some []))).alloc (.loop (rec .ready none)) = W1 := ⟨_, rfl⟩
  have hL1 : W1.heap[w.heap.size + 1]? = some (.loop (rec .ready none)) := by
    rw [← hW1]; have := World.alloc_heap_new (w.alloc (.deferred (some []))) (.loop (rec .ready none)); rwa [World.size_alloc] at this
  have hK1 : W1.heap[w.heap.size]? = some (.deferred (some [])) := by
    rw [← hW1]; exact (Below.heap_alloc _ _ _ (by simp)).trans (World.alloc_heap_new w _)
  have hI1 : I [] W1 := by rw [← hW1]; exact hI.alloc _ (hI.alloc _ h0)
  have hz1 : w.heap.size + 2 = W1.heap.size := by rw [← hW1]; simp
  have hseq1 := hseq (rec .ready none)
  rw [hW1] at hseq1
  refine ⟨w.heap.size + 1, [{ target := .collected w.heap.size, args := #[] }], W1, { target := .fn (.func gf) lb, args := #[.func (.yield (w.heap.size + 1)) #[] #[]] }, W1, gf,
    #[.func (.yield (w.heap.size + 1)) #[] #[]] ++ lb, W1, ?_, ?_, fun _ _ => trivial, ?_, fun _ => by omega, ?_⟩
  · rw [← hW1, hrec]; exact run_enterLoop_outer _ _ _ _ _
  · simp only [resolve, hgv]
    simp [go_sem]
  · have := eg (#[.func (.yield (w.heap.size + 1)) #[] #[]] ++ lb) W1
    simpa [invoke] using this
  · have hnw : ∀ {A : World} {row : Option Nat}, (∀ r, row = some r → W1.heap.size ≤ r ∧ ∃ o : Obj, A.heap[r]? = some o ∧ o.isWalk = true) → (∀ r, row = some r → w.heap.size ≤ r ∧ ∃ o : Obj, A.heap[r]? = some o ∧ o.isCells = false) :=
      fun hr r e => by obtain ⟨hB, o, ho, hw⟩ := hr r e; exact ⟨by omega, o, ho, Obj.not_cells_of_walk hw⟩
    have hcall : CallsIn Fence.wide (2 - 1) P gf (#[.func (.yield (w.heap.size + 1)) #[] #[]] ++ lb) W1 _ := callsIn_wide.2 (callsIn_wide.1 (hseq1 (w.heap.size + 1)
      (fun pre W => I pre W ∧ W.heap[w.heap.size + 1]? = some (.loop (rec .ready none)) ∧ W.heap[w.heap.size]? = some (.deferred (some [])))
      (fun pre W => ∃ c e, Jmp c e ∧ Ix e pre W ∧ W.heap[w.heap.size + 1]? = some (.loop (rec .done (some c))) ∧ W.heap[w.heap.size]? = some (.deferred (some [])))
      (fun s A B row hs hg' hr => ⟨hI s A B row hs.1 hg' (hnw hr), (grownBy_keeps hg' (fun r e => (hr r e).2) hs.2.1 rfl).trans hs.2.1, (grownBy_keeps hg' (fun r e => (hr r e).2) hs.2.2 rfl).trans hs.2.2⟩)
      (fun s A B row hs hg' hr => by
        obtain ⟨c, e, hj, hc, hl, hk⟩ := hs
        exact ⟨c, e, hj, hIx e s A B row hc hg' (hnw hr), (grownBy_keeps hg' (fun r e => (hr r e).2) hl rfl).trans hl, (grownBy_keeps hg' (fun r e => (hr r e).2) hk rfl).trans hk⟩)
      ?_ ⟨hI1, hL1, hK1⟩))
    · refine hcall.mono ?_
      rintro e W2 ⟨⟨v, rfl⟩, (⟨xs, hS, hi, hl, hk⟩ | ⟨pre, hSp, c, e, hj, hi, hl, hk⟩)⟩
      · exact ⟨none, _, by have := run_endLoop (P := P) hl (by rw [hrec]; simp); rw [hrec] at this; exact this, hAn _ _ (hdone _ xs _ (Nat.le_refl _) hS (hI.putObj _ hi (by omega) hl rfl) ((World.putObj_heap_other (by omega)).trans hk))⟩
      · have hend := run_endLoop (P := P) hl (by rw [hrec]; simp)
        refine ⟨some c, _, by rw [hrec] at hend; exact hend, ?_⟩
        have key : ∀ o', Q e { a with defers := coll w.heap.size :: a.defers } (W2.putObj (w.heap.size + 1) o') := fun o' =>
          hA _ _ _ (hstop w.heap.size e pre _ (Nat.le_refl _) hSp ((hIx e).putObj o' hi (by omega) hl rfl) ((World.putObj_heap_other (by omega)).trans hk))
        cases hj with
        | ret => exact wpIn_ret (key _)
        | exit i => exact wpIn_exit (key _)
        | goto t => exact wpIn_goto (key _)
    · rintro pre x Wb ⟨hi, hl, hk⟩ hpin
      have hy := run_yield (P := P) (args := (encs x).toArray) hl (by rw [hrec]; simpa using hps x)
      rw [hrec] at hy
      refine ⟨fn, _, assign, body, hy, roundIn_of_wpIn trivial (wpIn_mono (hrun _ _ Wb _ (hps x) (hbody pre x Wb hi hpin)) ?_)⟩
      clear hy
      intro e a' W hpost
      cases e with
      | normal =>
        obtain ⟨hpu, hbody'⟩ := hpost
        have hl' : W.heap[w.heap.size + 1]? = some (.loop (rec .ready none)) := (hpu.block _ (Array.getElem?_eq_some_iff.1 hl).1 id).trans hl
        have hk' : W.heap[w.heap.size]? = some (.deferred (some [])) := (hpu.block _ (Array.getElem?_eq_some_iff.1 hk).1 id).trans hk
        have hlt : w.heap.size + 1 < W.heap.size := (Array.getElem?_eq_some_iff.1 hl').1
        refine ⟨_, run_beginRound hl' (by rw [hrec]), ?_⟩
        have hbody2 := hbody' _ _ { rec .ready none with state := .busy } (by omega) hl'
        obtain ⟨W2, hW2⟩ : ∃ W2, W2 = W.putObj (w.heap.size + 1) (.loop { rec .ready none with state := .busy }) := ⟨_, rfl⟩
        rw [← hW2] at hbody2 ⊢
        have hl2 : W2.heap[w.heap.size + 1]? = some (.loop { rec .ready none with state := .busy }) := by rw [hW2]; exact World.putObj_heap_same hlt
        have hk2 : W2.heap[w.heap.size]? = some (.deferred (some [])) := by rw [hW2]; exact (World.putObj_heap_other (by omega)).trans hk'
        have keep : ∀ {A : World} (o : Obj), KeepT T A (A.putObj (w.heap.size + 1) o) := fun o =>
          ⟨by simp, fun k hk => World.putObj_heap_other (by have := hT k hk; omega)⟩
        refine wpIn_mono hbody2 ?_
        have fin : ∀ (jump : Option Code) (W3 : World), KeepsFrom w.heap.size W2 W3 →
            (Instr.endRound (w.heap.size + 1) jump).run P W3 = .ok (.bool jump.isNone) (W3.putObj (w.heap.size + 1) (.loop (rec (if jump.isNone then .ready else .done) jump))) ∧
            W3.heap[w.heap.size + 1]? = some (.loop { rec .ready none with state := .busy }) ∧
            (W3.putObj (w.heap.size + 1) (.loop (rec (if jump.isNone then .ready else .done) jump))).heap[w.heap.size + 1]? = some (.loop (rec (if jump.isNone then .ready else .done) jump)) ∧
            (W3.putObj (w.heap.size + 1) (.loop (rec (if jump.isNone then .ready else .done) jump))).heap[w.heap.size]? = some (.deferred (some [])) := fun jump W3 hk3 => by
          have hl3 := hk3.same _ _ (by omega) hl2 rfl
          have := run_endRound (P := P) jump hl3
          rw [hrec] at this ⊢
          exact ⟨this, by rw [hrec] at hl3; exact hl3, World.putObj_heap_same (Array.getElem?_eq_some_iff.1 hl3).1, (World.putObj_heap_other (by omega)).trans (hk3.same _ _ (Nat.le_refl _) hk2 rfl)⟩
        rintro e a3 W3 hp
        cases e with
        | normal =>
          obtain ⟨hk3, hkp3, hi3⟩ := hp
          obtain ⟨hr, hl3, hl4, hk4⟩ := fin none W3 hk3
          exact ⟨_, _, hr, .inl ⟨rfl, ⟨hI.putObj _ hi3 (by omega) hl3 rfl, hl4, hk4⟩, hkp3.trans (keep _)⟩⟩
        | ret =>
          obtain ⟨hk3, hi3⟩ := hp
          obtain ⟨hr, hl3, hl4, hk4⟩ := fin (some .ret) W3 hk3
          exact ⟨_, _, hr, .inr ⟨rfl, .ret, .ret, .ret, (hIx _).putObj _ hi3 (by omega) hl3 rfl, hl4, hk4⟩⟩
        | exit id =>
          obtain ⟨hk3, hi3⟩ := hp
          obtain ⟨hr, hl3, hl4, hk4⟩ := fin (some (.exit id)) W3 hk3
          exact ⟨_, _, hr, .inr ⟨rfl, .exit id, .exit id, .exit id, (hIx _).putObj _ hi3 (by omega) hl3 rfl, hl4, hk4⟩⟩
        | goto t =>
          obtain ⟨hk3, hi3⟩ := hp
          obtain ⟨hr, hl3, hl4, hk4⟩ := fin (some (.goto t)) W3 hk3
          exact ⟨_, _, hr, .inr ⟨rfl, .goto t, .goto t, .goto t, (hIx _).putObj _ hi3 (by omega) hl3 rfl, hl4, hk4⟩⟩
        | panic ch => exact hp.elim
        | outgrown => exact hp.elim
      | _ => exact hpost.elim

/-! ### Soundness -/
def lft (N : Nat) (c : Code) (a : Act) (Q : Exit → Env → World → Prop) (e : Exit) (a' : Act) (w' : World) : Prop :=
  (∀ ch, e ≠ .panic ch) ∧ Same c a a' ∧ ∃ E', Fits N E' a' ∧ Q e E' w'
theorem Same.refl (c : Code) (a : Act) : Same c a a := ⟨fun _ _ => rfl, rfl, fun _ => rfl⟩
theorem Same.trans {c c1 c2 : Code} {a a1 a2 : Act} (h1 : Same c1 a a1) (h2 : Same c2 a1 a2) (hw : ∀ i, wr c i = false → wr c1 i = false ∧ wr c2 i = false) (hn : noRf c = true → noRf c1 = true ∧ noRf c2 = true) : Same c a a2 :=
  ⟨fun i hi => (h2.tmps i (hw i hi).2).trans (h1.tmps i (hw i hi).1), h2.size.trans h1.size, fun h => (h2.defs (hn h).2).trans (h1.defs (hn h).1)⟩
theorem Same.mono {c c1 : Code} {a a1 : Act} (h1 : Same c1 a a1) (hw : ∀ i, wr c i = false → wr c1 i = false) (hn : noRf c = true → noRf c1 = true) : Same c a a1 :=
  ⟨fun i hi => h1.tmps i (hw i hi), h1.size, fun h => h1.defs (hn h)⟩
theorem Same.put {id : Nat} {ops : Array Oper} {dr : Bool} {a0 a : Act} (h : Same (.region id ops dr) a0 a) {o : Oper} (ho : o ∈ ops) (v : Value) : Same (.region id ops dr) a0 (a.put o.dst v) := by
  cases hd : o.dst with
  | none => exact h
  | some d =>
    refine ⟨fun i hi => ?_, by simpa [Act.put] using h.size, h.defs⟩
    show (a.tmps.setIfInBounds d v)[i]? = _
    rw [Array.getElem?_setIfInBounds]
    have hne : ¬ d = i := by
      intro e
      subst e
      have hi : wrOps ops.toList d = false := hi
      unfold wrOps at hi
      rw [List.any_eq_false] at hi
      exact hi o (by simpa using ho) (by rw [hd]; exact Nat.beq_refl d)
    rw [if_neg hne]
    exact h.tmps i hi
theorem Fits.knowing {N : Nat} {E : Env} {a : Act} (h : Fits N E a) {x : Operand} {b : Bool} (hx : E.ent x = some (.va (.bool b))) : Fits N (E.know x b) a := by
  cases x with
  | tmp t => exact h.know hx
  | _ => exact h
theorem fold_put {N : Nat} : ∀ (ps : List Tmp) (vs : List Value) (E : Env) (t : Array Value), (ps.all fun p => Nat.blt p N) = true → Fits N E ⟨t, []⟩ →
    Fits N (E.bindP ps vs) ⟨(ps.zip vs).foldl (fun t (p, v) => t.setIfInBounds p v) t, []⟩
  | [], vs, E, t, _, h => h
  | _ :: _, [], E, t, _, h => h
  | p :: ps, v :: vs, E, t, hp, h => by
    simp only [List.all_cons, Bool.and_eq_true] at hp
    exact fold_put ps vs _ _ hp.2 (h.put (d := some p) hp.1 (.va v))
theorem pickX_map {es : List Xt} {f : Xt → Nat → World → Prop} {e : Exit} {D : Nat} {W : World} (h : pickX (es.map fun x => (x, f x)) e D W) : (∀ ch, e ≠ .panic ch) ∧ ∃ x : Xt, x.exit = e ∧ f x D W := by
  induction es with
  | nil => exact h.elim
  | cons x es ih =>
    cases x with
    | rt =>
      cases e with
      | ret => exact ⟨by simp, .rt, rfl, h⟩
      | _ => exact ih h
    | ex i =>
      cases e with
      | exit j =>
        simp only [List.map_cons, pickX] at h
        cases hb : Nat.beq i j with
        | true => rw [hb] at h; exact ⟨by simp, .ex i, by rw [beq_iff'.1 hb]; rfl, h⟩
        | false => rw [hb] at h; exact ih h
      | _ => exact ih h
theorem zip_fold (ps : Array Tmp) (vs : List Value) (t : Array Value) : (ps.zip vs.toArray).foldl (fun t (p, v) => t.setIfInBounds p v) t = (ps.toList.zip vs).foldl (fun t (p, v) => t.setIfInBounds p v) t := by
  rw [← Array.foldl_toList, Array.toList_zip]
theorem vc_sound (hm : P.follows .mixedOrders = true) {N : Nat} {top : Bool} : ∀ {F : Fence} (_ : OkF F) (_ : top = true → F = Fence.wide) (c : Code) (ann : Ann) (E : Env) (Q : Exit → Env → World → Prop) (w : World) (a : Act) (n : Nat),
    codeOk N c = true → Fits N E a → vc P top c ann E Q w → c.wpIn F n P (lft N c a Q) a w := by
  intro F hF htop c
  induction c generalizing top F with
  | skip => intro ann E Q w a n _ hfit h; exact wpIn_skip ⟨by simp, Same.refl _ _, E, hfit, by simpa [vc] using h⟩
  | label l => intro ann E Q w a n _ hfit h; exact wpIn_label ⟨by simp, Same.refl _ _, E, hfit, by simpa [vc] using h⟩
  | exit id => intro ann E Q w a n _ hfit h; exact wpIn_exit ⟨by simp, Same.refl _ _, E, hfit, by simpa [vc] using h⟩
  | ret => intro ann E Q w a n _ hfit h; exact wpIn_ret ⟨by simp, Same.refl _ _, E, hfit, by simpa [vc] using h⟩
  | goto l => intro ann E Q w a n _ hfit h; simp [vc] at h
  | refuse s => intro ann E Q w a n _ hfit h; simp [vc] at h
  | scope b ih => intro ann E Q w a n _ hfit h; simp [vc] at h
  | region id ops dr =>
    intro ann E Q w a n hok hfit h
    have hd : dstsOk N ops.toList = true := hok
    have hR : ∀ (a1 : Act) (o : Oper) (v : Value), o ∈ ops → Same (.region id ops dr) a a1 → Same (.region id ops dr) a (a1.put o.dst v) := fun a1 o v ho hs => hs.put ho v
    have hQ : ∀ (E' : Env) (a' : Act) (w' : World), Fits N E' a' → Same (.region id ops dr) a a' → Q .normal E' w' → lft N (.region id ops dr) a Q .normal a' w' := fun E' a' w' hf hs hq => ⟨by simp, hs, E', hf, hq⟩
    cases dr with
    | false =>
      have h : vcOps P ops.toList ops.toList E w (Q .normal) := by simpa [vc] using h
      exact vcRegion_sound hF hR hQ hd hfit (Same.refl _ _) h
    | true =>
      cases ann with
      | draw l =>
        simp only [vc, cond_true] at h
        cases hl : drawOk ops.toList l with
        | false => rw [hl] at h; exact h.elim
        | true =>
          rw [hl] at h
          exact vcDraw_sound hF hm hR hQ (fun c a' w' hq => hq.1 c rfl) hd hl hfit (Same.refl _ _) h
      | _ => simp [vc] at h
  | seq x y ihx ihy =>
    intro ann E Q w a n hok hfit h
    simp only [codeOk, Bool.and_eq_true] at hok
    have hw1 : ∀ i, wr (.seq x y) i = false → wr x i = false ∧ wr y i = false := fun i hi => by simpa [wr] using hi
    have hn1 : noRf (.seq x y) = true → noRf x = true ∧ noRf y = true := fun hi => by simpa [noRf] using hi
    have done : ∀ e (a' : Act) (w' : World), e ≠ .normal → (∃ E', Fits N E' a' ∧ Q e E' w') → (∀ ch, e ≠ .panic ch) → Same x a a' → lft N (.seq x y) a Q e a' w' :=
      fun e a' w' _ hq hp hs => ⟨hp, hs.mono (fun i hi => (hw1 i hi).1) (fun hi => (hn1 hi).1), hq⟩
    have second : ∀ (ann : Ann) (E1 : Env) (a1 : Act) (w1 : World), Same x a a1 → Fits N E1 a1 → vc P top y ann E1 Q w1 → y.wpIn F n P (lft N (.seq x y) a Q) a1 w1 := fun ann E1 a1 w1 hs hf hv =>
      wpIn_mono (ihy hF htop ann E1 Q w1 a1 n hok.2 hf hv) fun e a2 w2 hq => ⟨hq.1, hs.trans hq.2.1 hw1 hn1, hq.2.2⟩
    cases ann with
    | seq ax ay =>
      simp only [vc] at h
      refine wpIn_seq (wpIn_mono (ihx hF htop ax E _ w a n hok.1 hfit h) ?_)
      rintro e a1 w1 ⟨hp, hs, E1, hf, hq⟩
      cases e with
      | normal => exact second ay E1 a1 w1 hs hf hq
      | panic ch => exact absurd rfl (hp ch)
      | _ => exact done _ _ _ (by simp) ⟨E1, hf, hq⟩ hp hs
    | join ss ax ay =>
      simp only [vc] at h
      cases hs0 : okS x ss with
      | false => rw [hs0] at h; exact h.elim
      | true =>
        rw [hs0] at h
        simp only [cond_true] at h
        cases hrf : noRf x with
        | true =>
          rw [hrf] at h
          obtain ⟨J, hJ, h⟩ := h
          refine wpIn_seq (wpIn_mono (ihx hF htop ax E _ w a n hok.1 hfit h) ?_)
          rintro e a1 w1 ⟨hp, hs, E1, hf, hq⟩
          cases e with
          | normal =>
            obtain ⟨vs, hj, hl, hv⟩ := valsK_spec hf hq
            have hr := hJ vs w1 hj
            rw [app_lam hl] at hr
            exact second ay _ a1 w1 hs (hfit.bind (E' := E) hs ((hs.defs hrf).trans hfit.defs) hv) hr
          | panic ch => exact absurd rfl (hp ch)
          | _ => exact done _ _ _ (by simp) ⟨E1, hf, hq⟩ hp hs
        | false =>
          rw [hrf] at h
          obtain ⟨J, hJ, h⟩ := h
          refine wpIn_seq (wpIn_mono (ihx hF htop ax E _ w a n hok.1 hfit h) ?_)
          rintro e a1 w1 ⟨hp, hs, E1, hf, hq⟩
          cases e with
          | normal =>
            obtain ⟨vs, hj, hl, hv⟩ := valsK_spec hf hq
            have hr := hJ E1.ds vs w1 hj
            rw [app_lam hl] at hr
            exact second ay _ a1 w1 hs (hfit.bind hs hf.defs hv) hr
          | panic ch => exact absurd rfl (hp ch)
          | _ => exact done _ _ _ (by simp) ⟨E1, hf, hq⟩ hp hs
    | _ => simp [vc] at h
  | cond c x y ihx ihy =>
    intro ann E Q w a n hok hfit h
    simp only [codeOk, Bool.and_eq_true] at hok
    have left : ∀ (ann : Ann) (E1 : Env), Fits N E1 a → vc P top x ann E1 Q w → x.wpIn F n P (lft N (.cond c x y) a Q) a w := fun ann E1 hf hv =>
      wpIn_mono (ihx hF htop ann E1 Q w a n hok.1 hf hv) fun e a2 w2 hq => ⟨hq.1, hq.2.1.mono (fun i hi => by simp [wr] at hi; exact hi.1) (fun hi => by simp [noRf] at hi; exact hi.1), hq.2.2⟩
    have right : ∀ (ann : Ann) (E1 : Env), Fits N E1 a → vc P top y ann E1 Q w → y.wpIn F n P (lft N (.cond c x y) a Q) a w := fun ann E1 hf hv =>
      wpIn_mono (ihy hF htop ann E1 Q w a n hok.2 hf hv) fun e a2 w2 hq => ⟨hq.1, hq.2.1.mono (fun i hi => by simp [wr] at hi; exact hi.2) (fun hi => by simp [noRf] at hi; exact hi.2), hq.2.2⟩
    cases ann with
    | cond ax ay =>
      simp only [vc] at h
      cases hc : E.ent c with
      | none => rw [hc] at h; exact h.elim
      | some ec =>
        rw [hc] at h
        have hev := hfit.ent hc
        cases ec with
        | un => exact h.elim
        | bo b =>
          cases b with
          | true => exact wpIn_cond_true hev (left ax E hfit h)
          | false => exact wpIn_cond_false hev (right ay E hfit h)
        | va v =>
          obtain ⟨b, rfl, h1, h2⟩ := gd_iff.1 h
          cases b with
          | true => exact wpIn_cond_true hev (left ax _ (hfit.knowing hc) (h1 rfl))
          | false => exact wpIn_cond_false hev (right ay _ (hfit.knowing hc) (h2 rfl))
    | _ => simp [vc] at h
  | block id b ih =>
    intro ann E Q w a n hok hfit h
    cases ann with
    | one x =>
      simp only [vc] at h
      refine wpIn_block (wpIn_mono (ih hF htop x E _ w a n hok hfit h) ?_)
      rintro e a1 w1 ⟨hp, hs, E1, hf, hq⟩
      have hs' : Same (.block id b) a a1 := hs.mono (fun i hi => hi) (fun hi => hi)
      cases e with
      | exit i =>
        simp only [inB] at hq
        show if i = id then _ else _
        by_cases hi : i = id
        · subst hi
          rw [if_pos rfl]
          rw [Nat.beq_refl] at hq
          exact ⟨by simp, hs', E1, hf, hq⟩
        · rw [if_neg hi]
          have : Nat.beq i id = false := by
            cases hb : Nat.beq i id with
            | false => rfl
            | true => exact absurd (beq_iff'.1 hb) hi
          rw [this] at hq
          exact ⟨by simp, hs', E1, hf, hq⟩
      | panic ch => exact absurd rfl (hp ch)
      | _ => exact ⟨hp, hs', E1, hf, hq⟩
    | _ => simp [vc] at h
  | loop b ih =>
    intro ann E Q w a n hok hfit h
    cases ann with
    | loop ss x =>
      simp only [vc] at h
      cases hs0 : okS b ss with
      | false => rw [hs0] at h; exact h.elim
      | true =>
        rw [hs0] at h
        simp only [cond_true] at h
        obtain ⟨vs0, h, hl0, hv0⟩ := valsK_spec hfit h
        have up : ∀ {a1 : Act}, Same b a a1 → Same (.loop b) a a1 := fun hs => hs.mono (fun i hi => hi) (fun hi => hi)
        have tr : ∀ {a1 a2 : Act}, Same b a a1 → Same b a1 a2 → Same b a a2 := fun h1 h2 => h1.trans h2 (fun i hi => ⟨hi, hi⟩) (fun hi => ⟨hi, hi⟩)
        cases hrf : noRf b with
        | true =>
          rw [hrf] at h
          obtain ⟨I, μ, hI, hstep⟩ := h
          refine wpIn_mono (Q := fun e a' w' => e ≠ .normal ∧ lft N (.loop b) a Q e a' w') (wpIn_loop (fun a' w' => ∃ vs, Same b a a' ∧ app ss.length I vs w' ∧ ∀ (j s : Nat) (v : Value), ss[j]? = some s → vs[j]? = some v → a'.tmps[s]? = some v)
            (fun a' w' => μ (ss.map fun s => a'.tmps.getD s undef) w') ⟨vs0, Same.refl _ _, hI, hv0⟩ ?_) (fun e a' w' hq => hq.2)
          rintro a1 w1 ⟨vs, hs, hJ, hv⟩
          have hlen := app_len hJ
          have hvs : (ss.map fun s => a1.tmps.getD s undef) = vs := by
            refine List.ext_getElem? fun j => ?_
            rw [List.getElem?_map]
            cases hj : ss[j]? with
            | none => simp at hj; simp; omega
            | some s =>
              have hjl : j < vs.length := by rw [hlen]; exact (List.getElem?_eq_some_iff.1 hj).1
              have := hv j s vs[j] hj (by simp [hjl])
              simp [Array.getD_eq_getD_getElem?, this, hjl]
          have hst := hstep vs w1 hJ
          rw [app_lam hlen] at hst
          refine wpIn_mono (ih hF htop x _ _ w1 a1 n hok (hfit.bind (E' := E) hs ((hs.defs hrf).trans hfit.defs) hv) hst) ?_
          rintro e a2 w2 ⟨hp, hs2, E2, hf2, hq⟩
          cases e with
          | normal =>
            obtain ⟨vs2, hj2, hl2, hv2⟩ := valsK_spec hf2 hq
            rw [app_lam hl2] at hj2
            have hvs2 : (ss.map fun s => a2.tmps.getD s undef) = vs2 := by
              refine List.ext_getElem? fun j => ?_
              rw [List.getElem?_map]
              cases hj : ss[j]? with
              | none => simp at hj; simp; omega
              | some s =>
                have hjl : j < vs2.length := by rw [hl2]; exact (List.getElem?_eq_some_iff.1 hj).1
                have := hv2 j s vs2[j] hj (by simp [hjl])
                simp [Array.getD_eq_getD_getElem?, this, hjl]
            refine ⟨⟨vs2, tr hs hs2, hj2.1, hv2⟩, ?_⟩
            show μ (ss.map fun s => a2.tmps.getD s undef) w2 < μ (ss.map fun s => a1.tmps.getD s undef) w1
            rw [hvs, hvs2]
            exact hj2.2
          | panic ch => exact absurd rfl (hp ch)
          | _ => exact ⟨by simp, hp, up (tr hs hs2), E2, hf2, hq⟩
        | false =>
          rw [hrf] at h
          obtain ⟨I, μ, hI, hstep⟩ := h
          refine wpIn_mono (Q := fun e a' w' => e ≠ .normal ∧ lft N (.loop b) a Q e a' w') (wpIn_loop (fun a' w' => ∃ ds vs, Same b a a' ∧ a'.defers = ds.map coll ∧ app ss.length (I ds) vs w' ∧ ∀ (j s : Nat) (v : Value), ss[j]? = some s → vs[j]? = some v → a'.tmps[s]? = some v)
            (fun a' w' => μ (ss.map fun s => a'.tmps.getD s undef) w') ⟨E.ds, vs0, Same.refl _ _, hfit.defs, hI, hv0⟩ ?_) (fun e a' w' hq => hq.2)
          rintro a1 w1 ⟨ds, vs, hs, hds, hJ, hv⟩
          have hlen := app_len hJ
          have hvs : (ss.map fun s => a1.tmps.getD s undef) = vs := by
            refine List.ext_getElem? fun j => ?_
            rw [List.getElem?_map]
            cases hj : ss[j]? with
            | none => simp at hj; simp; omega
            | some s =>
              have hjl : j < vs.length := by rw [hlen]; exact (List.getElem?_eq_some_iff.1 hj).1
              have := hv j s vs[j] hj (by simp [hjl])
              simp [Array.getD_eq_getD_getElem?, this, hjl]
          have hst := hstep ds vs w1 hJ
          rw [app_lam hlen] at hst
          refine wpIn_mono (ih hF htop x _ _ w1 a1 n hok (hfit.bind (E' := { E with ds := ds }) hs hds hv) hst) ?_
          rintro e a2 w2 ⟨hp, hs2, E2, hf2, hq⟩
          cases e with
          | normal =>
            obtain ⟨vs2, hj2, hl2, hv2⟩ := valsK_spec hf2 hq
            rw [app_lam hl2] at hj2
            have hvs2 : (ss.map fun s => a2.tmps.getD s undef) = vs2 := by
              refine List.ext_getElem? fun j => ?_
              rw [List.getElem?_map]
              cases hj : ss[j]? with
              | none => simp at hj; simp; omega
              | some s =>
                have hjl : j < vs2.length := by rw [hl2]; exact (List.getElem?_eq_some_iff.1 hj).1
                have := hv2 j s vs2[j] hj (by simp [hjl])
                simp [Array.getD_eq_getD_getElem?, this, hjl]
            refine ⟨⟨E2.ds, vs2, tr hs hs2, hf2.defs, hj2.1, hv2⟩, ?_⟩
            show μ (ss.map fun s => a2.tmps.getD s undef) w2 < μ (ss.map fun s => a1.tmps.getD s undef) w1
            rw [hvs, hvs2]
            exact hj2.2
          | panic ch => exact absurd rfl (hp ch)
          | _ => exact ⟨by simp, hp, up (tr hs hs2), E2, hf2, hq⟩
    | _ => simp [vc] at h
  | rangeFunc g ps x y ihx ihy =>
    intro ann E Q w a n hok hfit h
    cases ann with
    | rng es ax ay =>
      cases top with
      | false => simp [vc] at h
      | true =>
        obtain rfl := htop rfl
        simp only [vc, cond_true] at h
        simp only [codeOk, Bool.and_eq_true] at hok
        cases hg : E.ent g with
        | none => rw [hg] at h; exact h.elim
        | some e =>
          rw [hg] at h
          refine wpIn_wide.2 (wpIn_wide.1 (range_vc (hfit.ent hg) h ?_ ?_ ?_))
          · intro l vs W q hl hB
            rw [app_lam hl] at hB
            have hfit0 : Fits N ({ E with ds := [] } : Env) ⟨a.tmps, []⟩ := ⟨hfit.get, hfit.size, rfl⟩
            have hf := fold_put ps.toList vs _ _ hok.1.1 hfit0
            rw [← zip_fold] at hf
            refine wpIn_mono (ihx (top := false) (okRound l) (by simp) ax _ _ W _ 0 hok.1.2 hf hB) ?_
            rintro e1 a1 W1 ⟨hp, hs, E1, hf1, hq⟩
            cases e1 with
            | normal =>
              refine ⟨hq.1, fun l' o o' hl' ho => ?_⟩
              refine wpIn_mono (ihy (top := false) (okRound l) (by simp) ay E1 _ _ a1 0 hok.2 hf1 (hq.2 l' o o' hl' ho)) ?_
              rintro e2 a2 W2 ⟨_, _, E2, _, hq2⟩
              exact hq2
            | panic ch => exact absurd rfl (hp ch)
            | _ => exact hq.elim
          · intro D W hA
            exact ⟨by simp, ⟨fun i _ => rfl, rfl, fun hn => by simp [noRf] at hn⟩, { E with ds := D :: E.ds }, ⟨hfit.get, hfit.size, by simp [hfit.defs]⟩, hA⟩
          · intro D e' W hA
            obtain ⟨hp, xt, hx, hA'⟩ := pickX_map (f := fun x D W => Q x.exit { E with ds := D :: E.ds } W) hA
            subst hx
            exact ⟨hp, ⟨fun i _ => rfl, rfl, fun hn => by simp [noRf] at hn⟩, { E with ds := D :: E.ds }, ⟨hfit.get, hfit.size, by simp [hfit.defs]⟩, hA'⟩
    | _ => simp [vc] at h

/-! ### Functions -/
def argEnv : List Value → Nat → Option Ent
  | [], _ => none
  | v :: _, 0 => some (.va v)
  | _ :: vs, n + 1 => argEnv vs n
theorem argEnv_get : ∀ (vs : List Value) (i : Nat) (e : Ent), argEnv vs i = some e → vs[i]? = some e.val
  | [], _, _, h => by cases h
  | _ :: _, 0, _, h => by injection h with h; subst h; rfl
  | _ :: vs, n + 1, e, h => argEnv_get vs n e h
/-- The marks that ranges over iterators have left are taken away. -/
def fin : List Nat → World → (World → Prop) → Prop
  | [], w, X => X w
  | D :: ds, w, X => w.heap[D]? = some (.deferred (some [])) ∧ fin ds (w.putObj D (.deferred none)) X
def rd (P : Program) (s : Sem Value) (w : World) (K : Value → Prop) : Prop := onOk (s.run P w) fun v w' => w' = w ∧ K v
theorem rd_iff {P : Program} {s : Sem Value} {w : World} {K : Value → Prop} : rd P s w K ↔ ∃ v, s.run P w = .ok v w ∧ K v := by
  unfold rd onOk
  constructor
  · intro h
    cases hr : s.run P w with
    | ok v w' => rw [hr] at h; obtain ⟨rfl, h⟩ := h; exact ⟨v, rfl, h⟩
    | halt x w' => rw [hr] at h; exact h.elim
  · rintro ⟨v, hr, h⟩
    rw [hr]; exact ⟨rfl, h⟩
def resV (P : Program) (E : Env) (w : World) : List ResultVar → (List Value → Prop) → Prop
  | [], k => k []
  | .tmp t :: rs, k => match E.get t with
    | some e => resV P E w rs fun vs => k (e.val :: vs)
    | none => False
  | .cell t ty :: rs, k => match E.get t with
    | some e => rd P (Instr.loadAt ty e.val) w fun v => resV P E w rs fun vs => k (v :: vs)
    | none => False
def tup : List Value → Value
  | [v] => v
  | vs => .tuple vs.toArray
def retQ (P : Program) (rs : List ResultVar) (R : Value → World → Prop) : Exit → Env → World → Prop
  | .normal, E, w => fin E.ds w fun w' => resV P E w' rs fun vs => R (tup vs) w'
  | .ret, E, w => fin E.ds w fun w' => resV P E w' rs fun vs => R (tup vs) w'
  | _, _, _ => False
def resSem (tmps : Array Value) : ResultVar → Sem Value
  | .tmp t => pure (tmps.getD t undef)
  | .cell b t => do loadVar t (← asAddr (tmps.getD b undef))
theorem resV_run {N : Nat} {E : Env} {a : Act} (hfit : Fits N E a) {w : World} : ∀ {rs : List ResultVar} {k : List Value → Prop}, resV P E w rs k → ∃ vs, k vs ∧ vs.length = rs.length ∧
    (rs.mapM (resSem a.tmps)).run P w = .ok vs w
  | [], k, h => ⟨[], h, rfl, rfl⟩
  | .tmp t :: rs, k, h => by
    simp only [resV] at h
    cases he : E.get t with
    | none => rw [he] at h; exact h.elim
    | some e =>
      rw [he] at h
      obtain ⟨vs, h1, h2, h3⟩ := resV_run hfit h
      have hg : a.tmps.getD t undef = e.val := by rw [Array.getD_eq_getD_getElem?, hfit.get _ _ he]; rfl
      refine ⟨e.val :: vs, h1, by simp [h2], ?_⟩
      rw [List.mapM_cons]
      simp only [resSem, Sem.run_bind, Sem.run_pure, Result.andThen_ok, h3, hg]
  | .cell t ty :: rs, k, h => by
    simp only [resV] at h
    cases he : E.get t with
    | none => rw [he] at h; exact h.elim
    | some e =>
      rw [he] at h
      obtain ⟨v, hv, h⟩ := rd_iff.1 h
      obtain ⟨vs, h1, h2, h3⟩ := resV_run hfit h
      have hg : a.tmps.getD t undef = e.val := by rw [Array.getD_eq_getD_getElem?, hfit.get _ _ he]; rfl
      have hl : (resSem a.tmps (.cell t ty)).run P w = .ok v w := by
        show (do loadVar ty (← asAddr (a.tmps.getD t undef)) : Sem Value).run P w = .ok v w
        rw [hg]
        unfold Instr.loadAt at hv
        cases hev : e.val with
        | pointer p => cases p with
          | none => rw [hev] at hv; simp [Instr.sureAddr] at hv
          | some p => rw [hev] at hv; simpa [Instr.sureAddr, asAddr] using hv
        | _ => rw [hev] at hv; simp [Instr.sureAddr] at hv
      refine ⟨v :: vs, h1, by simp [h2], ?_⟩
      rw [List.mapM_cons]
      rw [Sem.run_bind, hl]
      simp only [Sem.run_bind, Sem.run_pure, Result.andThen_ok, h3]
theorem results_run {N : Nat} {E : Env} {a : Act} (hfit : Fits N E a) {w : World} {fn : Func} {k : List Value → Prop} (h : resV P E w fn.results.toList k) : ∃ vs, k vs ∧ (results fn a.tmps).run P w = .ok (tup vs) w := by
  obtain ⟨vs, h1, h2, h3⟩ := resV_run hfit h
  refine ⟨vs, h1, ?_⟩
  have key : ∀ f : ResultVar → Sem Value, f = resSem a.tmps → (fn.results.mapM f).run P w = .ok vs.toArray w := by
    intro f hf
    rw [hf, Array.mapM_eq_mapM_toList, Sem.run_map, h3]; rfl
  unfold results
  rw [Sem.run_bind, key _ (by funext r; cases r <;> rfl)]
  simp only [Result.andThen_ok, Sem.run_pure]
  congr 1
  match vs with
  | [] => rfl
  | [v] => rfl
  | _ :: _ :: _ => rw [dif_neg (by simp)]; rfl
/-- A FUNCTION's CONTRACT: the condition of its code holds. -/
theorem ret_of_vc {f : FuncId} {fn : Func} {c : Code} {ann : Ann} {args : List Value} {w : World} {R : Value → World → Prop} (hm : P.follows .mixedOrders = true) (he : Enters P f)
    (hf : P.funcs[f]? = some fn) (hb : fn.body = some c) (hok : codeOk fn.ntmps c = true) (hl : Nat.ble args.length fn.ntmps = true)
    (h : vc P true c ann { get := argEnv args, ds := [] } (retQ P fn.results.toList R) w) : Ret P f args.toArray w R := by
  refine Ret.mk he (callsIn_wide.1 (callsIn_of_wp_marks (n := 2) hf hb trivial ?_ rfl))
  have hle := Nat.le_of_ble_eq_true hl
  have hfit : Fits fn.ntmps { get := argEnv args, ds := [] } { tmps := args.toArray ++ Array.replicate (fn.ntmps - args.toArray.size) undef, defers := [] } := by
    refine ⟨fun i e hi => ?_, by simp; omega, rfl⟩
    have := argEnv_get args i e hi
    rw [Array.getElem?_append_left (by simpa using (List.getElem?_eq_some_iff.1 this).1)]
    simpa using this
  refine wpIn_mono (vc_sound hm okWide (fun _ => rfl) c ann _ _ w _ 2 hok hfit h) ?_
  have leave : ∀ (ds : List Nat) (E : Env) (a' : Act) (w' : World), Fits fn.ntmps E a' → fin ds w' (fun w2 => resV P E w2 fn.results.toList fun vs => R (tup vs) w2) →
      LeavesInM Fence.wide 2 P fn a'.tmps (fun e w' => ∃ v, e = .returned v ∧ R v w') (ds.map coll) .returning w' := by
    intro ds
    induction ds with
    | nil =>
      intro E a' w' hf h
      obtain ⟨vs, h1, h2⟩ := results_run hf h
      exact ⟨_, h2, _, rfl, h1⟩
    | cons D ds ih =>
      intro E a' w' hf h
      obtain ⟨hD, h⟩ := h
      refine ⟨by simp, .inl ⟨D, _, rfl, ?_, ih E a' _ hf h⟩⟩
      have hlt : D < w'.heap.size := (Array.getElem?_eq_some_iff.1 hD).1
      simp [Instr.takeDeferred, getObj, setObj, Sem.run, hD, World.putObj]
  rintro e a' w' ⟨hp, _, E', hf', hq⟩
  cases e with
  | normal => show LeavesInM _ _ _ _ _ _ a'.defers _ _; rw [hf'.defs]; exact leave _ _ _ _ hf' hq
  | ret => show LeavesInM _ _ _ _ _ _ a'.defers _ _; rw [hf'.defs]; exact leave _ _ _ _ hf' hq
  | panic ch => exact absurd rfl (hp ch)
  | _ => exact hq.elim
theorem joinK_iff {n : Nat} {R : Car n} {B : Car n → Prop} : joinK n R B ↔ ∃ J : Car n, (∀ vs w, app n J vs w → app n R vs w) ∧ B J := Iff.rfl
theorem joinD_iff {n : Nat} {R : List Nat → Car n} {B : (List Nat → Car n) → Prop} : joinD n R B ↔ ∃ J : List Nat → Car n, (∀ ds vs w, app n (J ds) vs w → app n (R ds) vs w) ∧ B J := Iff.rfl
theorem loopK_iff {n : Nat} {init : List Value} {w : World} {body : Car n → Car n} : loopK n init w body ↔
  ∃ (I : Car n) (μ : List Value → World → Nat), app n I init w ∧ ∀ vs w, app n I vs w → app n (body (lam n fun vs' w' => app n I vs' w' ∧ μ vs' w' < μ vs w)) vs w := Iff.rfl
theorem loopD_iff {n : Nat} {ds : List Nat} {init : List Value} {w : World} {body : (List Nat → Car n) → List Nat → Car n} : loopD n ds init w body ↔
  ∃ (I : List Nat → Car n) (μ : List Value → World → Nat), app n (I ds) init w ∧ ∀ ds vs w, app n (I ds) vs w → app n (body (fun ds' => lam n fun vs' w' => app n (I ds') vs' w' ∧ μ vs' w' < μ vs w) ds) vs w := Iff.rfl
theorem asn_iff {n0 : Nat} {W W' : World} {X : World → Prop} : asn n0 W W' X ↔ Pure W W' ∧ ∀ (l : Nat) (o o' : Loop), n0 ≤ l → W'.heap[l]? = some (.loop o) → X (W'.putObj l (.loop o')) := Iff.rfl
theorem fin_nil_eq {w : World} {X : World → Prop} : fin [] w X = X w := rfl
theorem fin_cons_eq {D : Nat} {ds : List Nat} {w : World} {X : World → Prop} : fin (D :: ds) w X = (w.heap[D]? = some (.deferred (some [])) ∧ fin ds (w.putObj D (.deferred none)) X) := rfl
attribute [irreducible] joinK joinD loopK loopD rd asn fin
end Go.Proofs.YtipeanblfjimdaaDoor
