/- Several texts in one: VcA, VcB, Base, Sq, VcC, Mix, VcL, DiskA, VcH, VcR. No conditions. -/
import Derived.WalkKit
import Derived.OrdersIn
import Derived.TacticsIn
import Derived.OwnWalkIn
import Derived.RangeFuncCalls
import Derived.RangeFuncSeq
import Derived.Deep.AppendSrc
import Derived.Maps.AppendAt
import Derived.Deep.Draws
import Derived.Lib.ConvBytes
import Derived.Laws.BytesString
import Derived.RangeFuncNested
import Derived.RangeFuncLeaves
import Derived.Test.YtchmcjimnliodaaChecked
import Derived.Laws.Rows
import Derived.Laws.CopyOwn
section
set_option linter.unusedSimpArgs false
set_option linter.unusedVariables false
/- A generator of verification conditions: slots are replaced by values; operations stand as conditions on memory. The definitions, and what an operation does. No program in sight. -/
namespace Go.Proofs.Ytchmcjimnliodaa
open Go

/-! ### What is known of a frame -/
inductive Ent where
  | va (x : Value)
  | bo (x : Bool)
  | un
def Ent.val : Ent → Value
  | .va x => x
  | .bo x => .bool x
  | .un => undef
structure Env where
  get : Nat → Option Ent
  ds : List Nat
def Env.put (E : Env) (d : Option Tmp) (e : Ent) : Env :=
  match d with
  | none => E
  | some d => { get := fun i => bif Nat.beq i d then some e else E.get i, ds := E.ds }
def Env.ent (E : Env) : Operand → Option Ent
  | .tmp t => E.get t
  | .const (.bool b) => some (.bo b)
  | .const v => some (.va v)
  | .global g => some (.va (.pointer (some ⟨g, 0, none⟩)))
  | .func f => some (.va (.func (.func f) #[] #[]))
def entV : Option Ent → Value
  | some e => e.val
  | none => undef
def Env.ev (E : Env) (x : Operand) : Value := entV (E.ent x)
def coll (D : Nat) : Deferred := { target := .collected D, args := #[] }
structure Fits (N : Nat) (E : Env) (a : Act) : Prop where
  get : ∀ i e, E.get i = some e → a.tmps[i]? = some e.val
  size : N ≤ a.tmps.size
  defs : a.defers = E.ds.map coll
def dstOk (N : Nat) (d : Option Tmp) : Bool :=
  match d with
  | none => true
  | some d => Nat.blt d N
theorem Fits.put {N : Nat} {E : Env} {a : Act} (h : Fits N E a) {d : Option Tmp} (hd : dstOk N d = true) (e : Ent) : Fits N (E.put d e) (a.put d e.val) := by
  cases d with
  | none => exact h
  | some d =>
    have hd' : d < N := Nat.le_of_ble_eq_true hd
    have hs := h.size
    refine ⟨fun i e' hi => ?_, by simpa [Act.put] using hs, h.defs⟩
    simp only [Env.put] at hi
    show (a.tmps.setIfInBounds d e.val)[i]? = _
    rw [Array.getElem?_setIfInBounds]
    by_cases hid : i = d
    · subst hid
      simp only [Nat.beq_refl, cond_true, Option.some.injEq] at hi
      subst hi
      rw [if_pos rfl, if_pos (Nat.lt_of_lt_of_le hd' hs)]
    · have : Nat.beq i d = false := by
        cases hb : Nat.beq i d with
        | false => rfl
        | true => exact absurd (Nat.eq_of_beq_eq_true hb) hid
      rw [this] at hi
      rw [if_neg (fun e => hid e.symm)]
      exact h.get i e' hi
theorem Fits.ent {N : Nat} {E : Env} {a : Act} (h : Fits N E a) {x : Operand} {e : Ent} (hx : E.ent x = some e) : a.eval x = e.val := by
  cases x with
  | tmp t =>
    have := h.get t e hx
    show a.tmps.getD t undef = _
    rw [Array.getD_eq_getD_getElem?, this]; rfl
  | const v =>
    simp only [Env.ent] at hx
    cases v <;> (injection hx with hx; subst hx; rfl)
  | global g => injection hx with hx; subst hx; rfl
  | func f => injection hx with hx; subst hx; rfl
theorem Fits.ev {N : Nat} {E : Env} {a : Act} (h : Fits N E a) {x : Operand} (hx : (E.ent x).isSome = true) : a.eval x = E.ev x := by
  cases hq : E.ent x with
  | none => rw [hq] at hx; cases hx
  | some e => rw [h.ent hq, Env.ev, hq]; rfl

/-! ### Operations -/
def onOk (r : Result Value) (K : Value → World → Prop) : Prop :=
  match r with
  | .ok v w => K v w
  | .halt _ _ => False
def onOkU (r : Result Unit) (K : World → Prop) : Prop :=
  match r with
  | .ok _ w => K w
  | .halt _ _ => False
def val (P : Program) (s : Sem Value) (w : World) (K : Value → World → Prop) : Prop := onOk (s.run P w) K
def unt (P : Program) (s : Sem Unit) (w : World) (K : World → Prop) : Prop := onOkU (s.run P w) K
theorem val_iff {P : Program} {s : Sem Value} {w : World} {K : Value → World → Prop} : val P s w K ↔ ∃ v w', s.run P w = .ok v w' ∧ K v w' := by
  unfold val onOk
  constructor
  · intro h
    cases hr : s.run P w with
    | ok v w' => rw [hr] at h; exact ⟨v, w', rfl, h⟩
    | halt x w' => rw [hr] at h; exact h.elim
  · rintro ⟨v, w', hr, h⟩
    rw [hr]; exact h
theorem unt_iff {P : Program} {s : Sem Unit} {w : World} {K : World → Prop} : unt P s w K ↔ ∃ w', s.run P w = .ok () w' ∧ K w' := by
  unfold unt onOkU
  constructor
  · intro h
    cases hr : s.run P w with
    | ok v w' => rw [hr] at h; exact ⟨w', rfl, h⟩
    | halt x w' => rw [hr] at h; exact h.elim
  · rintro ⟨w', hr, h⟩
    rw [hr]; exact h
def isC : Operand → Bool
  | .const _ => true
  | _ => false
def bin (op : BinOp) (t : TypeId) (c : Bool) (a b : Value) : Sem Value := do eqGuard op t (bif c then .const undef else .tmp 0) (.tmp 0) a b; binOp op t a b
def nilc : Value → Sem Value
  | .pointer (some a) => pure (.pointer (some a))
  | .func (.func f) x y => pure (.func (.func f) x y)
  | .func (.yield l) x y => pure (.func (.yield l) x y)
  | _ => stuck "nil"
def biSem (b : Builtin) (ts : Array TypeId) (ty : TypeId) (args : Array Value) : Option (Sem Value) :=
  match b with
  | .append => some (Builtin.append_ ts ty args)
  | .cap => some (Builtin.cap_ ts ty args)
  | .clear => some (Builtin.clear_ ts ty args)
  | .copy => some (Builtin.copy_ ts ty args)
  | .delete => some (Builtin.delete_ ts ty args)
  | .len => some (Builtin.len_ ts ty args)
  | .max => some (Builtin.max_ ts ty args)
  | .min => some (Builtin.min_ ts ty args)
  | _ => none
def opSem (ty : TypeId) (ρ : Operand → Value) : Op → Option (Sem Value)
  | .alloc e => some (Instr.alloc e true (.tuple #[]))
  | .box e x => some (Instr.box e (ρ x))
  | .build t ps => some (Instr.build t (ps.toList.map fun p => (p.1, ρ p.2)).toArray)
  | .buildSlice t n ps => some (Instr.buildSlice t n (ps.toList.map fun p => (p.1, ρ p.2)).toArray)
  | .load t x => some (Instr.loadAt t (ρ x))
  | .nilCheck x => some (nilc (ρ x))
  | .binOp op t x y _ => some (bin op t (isC x || isC y) (ρ x) (ρ y))
  | .unOp op _ x => some (Op.unary op (ρ x))
  | .convert s d x => some (convert s d (ρ x))
  | .makeInterface t x => some (Instr.makeInterface t (ρ x))
  | .makeFunc fn f c => some (Instr.makeFunc fn (f.toList.map ρ).toArray (c.toList.map ρ).toArray)
  | .makeMap t r => some (Instr.makeMap t (r.map ρ))
  | .makeSlice t l c => some (Instr.makeSlice t (ρ l) (ρ c))
  | .slice t x lo hi mx => some (Instr.sliceAt t (ρ x) (lo.map ρ) (hi.map ρ) (mx.map ρ))
  | .fieldAddr s x f => some (Instr.fieldAt s (ρ x) f)
  | .field t x f => some (Instr.field t (ρ x) f)
  | .indexAddr t x i => some (Instr.indexAt t (ρ x) (ρ i))
  | .index t x i => some (Instr.index t (ρ x) (ρ i))
  | .lookup t x i ok => some (Instr.lookup t (ρ x) (ρ i) ok)
  | .mapEntry t m k => some (Instr.mapEntry t (ρ m) (ρ k))
  | .range t x => some (Instr.range t (ρ x))
  | .next it s => some (Instr.next (ρ it) s ty)
  | .entry it => some (Instr.entry (ρ it))
  | .typeAssert x t a ok => some (Instr.typeAssert (ρ x) t a ok)
  | .extract t i => some (Instr.extract (ρ t) i)
  | .waits g => some (Instr.waits g)
  | .call c => match c.callee with
    | .builtin b => biSem b c.argTypes ty (c.args.toList.map ρ).toArray
    | _ => none
  | _ => none
def opUnt (ρ : Operand → Value) : Op → Option (Sem Unit)
  | .store t a x => some (Instr.storeAt t (ρ a) (ρ x))
  | .mapUpdate t m k x => some (Instr.mapUpdate t (ρ m) (ρ k) (ρ x))
  | .insert t m k x => some (Instr.mapUpdate t (ρ m) (ρ k) (ρ x))
  | .entryStore t m s x => some (Instr.entryStore t (ρ m) (ρ s) (ρ x))
  | _ => none
def callOpnds (c : Call) : List Operand := (match c.callee with | .value f => [f] | .invoke r _ => [r] | .builtin _ => []) ++ c.args.toList
def opnds : Op → List Operand
  | .alloc _ | .ready _ | .waits _ => []
  | .move x | .assign x | .box _ x | .load _ x | .nilCheck x | .unOp _ _ x | .convert _ _ x | .sliceToArrayPointer _ x | .makeInterface _ x
  | .makeChan _ x | .fieldAddr _ x _ | .field _ x _ | .range _ x | .next x _ | .entry x | .typeAssert x _ _ _ | .extract x _ | .panic x | .recv _ x _ => [x]
  | .pick c a b => [c, a, b]
  | .build _ ps | .buildSlice _ _ ps => ps.toList.map (·.2)
  | .store _ a v | .binOp _ _ a v _ | .makeSlice _ a v | .indexAddr _ a v | .index _ a v | .lookup _ a v _ | .mapEntry _ a v | .send a v => [a, v]
  | .makeFunc _ first captured => first.toList ++ captured.toList
  | .makeMap _ r => r.toList
  | .slice _ x l h m => [x] ++ l.toList ++ h.toList ++ m.toList
  | .mapUpdate _ m k v | .entryStore _ m k v | .insert _ m k v => [m, k, v]
  | .call c | .go c | .defer c => callOpnds c
  | .select _ _ => []
theorem mem_opnds {o : Op} (hs : ∀ cs b, o ≠ .select cs b) {x : Operand} (h : x ∈ o.operands) : x ∈ opnds o := by
  have hcall : ∀ c : Call, x ∈ c.operands → x ∈ callOpnds c := by
    intro c h
    simp only [Call.operands, callOpnds, Array.mem_append, List.mem_append, Array.mem_toList_iff] at h ⊢
    refine h.imp (fun h => ?_) id
    cases hc : c.callee <;> rw [hc] at h <;> first | (simp at h; done) | simpa using h
  cases o with
  | call c => exact hcall c h
  | go c => exact hcall c h
  | defer c => exact hcall c h
  | select cs b => exact absurd rfl (hs _ _)
  | _ => first
    | exact h
    | (simp [Op.operands, opnds] at h ⊢; done)
    | (simp [Op.operands, opnds] at h ⊢; exact h)
    | (simpa [Op.operands, opnds] using h)
def kn (E : Env) (l : List Operand) : Bool := l.all fun x => (E.ent x).isSome
theorem Fits.kn {N : Nat} {E : Env} {a : Act} (h : Fits N E a) {o : Op} (hs : ∀ cs b, o ≠ .select cs b) (hk : kn E (opnds o) = true) : ∀ x ∈ o.operands, a.eval x = E.ev x := by
  intro x hx
  have := List.all_eq_true.1 hk x (mem_opnds hs hx)
  exact h.ev this

def Enters (P : Program) (f : FuncId) : Prop := ∀ args w, (callFunc f args).run P w = .ok (.enter f args) w
/-- The call of `f` returns, and `K` holds of what it returns and of the world behind it. -/
def Ret (P : Program) (f : FuncId) (args : Array Value) (w : World) (K : Value → World → Prop) : Prop :=
  Enters P f ∧ Calls P f args w fun e w' => ∃ v, e = .returned v ∧ K v w'
theorem Ret.mono {P : Program} {f : FuncId} {args : Array Value} {w : World} {K K' : Value → World → Prop} (h : Ret P f args w K) (hk : ∀ v w', K v w' → K' v w') : Ret P f args w K' :=
  ⟨h.1, h.2.mono fun _ _ ⟨v, e, k⟩ => ⟨v, e, hk v _ k⟩⟩
/-- A round of a range over an iterator. -/
def Yld (P : Program) (l : Nat) (args : Array Value) (w : World) (K : Value → World → Prop) : Prop :=
  YieldAt Fence.wide 0 P l args w fun e w' => ∃ v, e = .returned v ∧ K v w'
def dyn (P : Program) (f : Value) (args : List Value) (w : World) (K : Value → World → Prop) : Prop :=
  match f with
  | .func (.func f) first cap => Ret P f (first ++ args.toArray ++ cap) w K
  | .func (.yield l) first _ => Yld P l (first ++ args.toArray) w K
  | _ => False
def mv (e : Option Ent) (K : Ent → Prop) : Prop :=
  match e with
  | some e => K e
  | none => False
def pick3 (v x y : Value) (K : Value → Prop) : Prop := ∃ b, v = .bool b ∧ K (bif b then x else y)
def pk (c x y : Option Ent) (K : Ent → Prop) : Prop :=
  match c with
  | some (.bo b) => bif b then mv x K else mv y K
  | some (.va v) => mv x fun x => mv y fun y => pick3 v x.val y.val fun r => K (.va r)
  | _ => False
def opGen (P : Program) (E : Env) (o : Oper) (w : World) (K : Ent → World → Prop) : Prop :=
  bif kn E (opnds o.op) then
    match opSem o.type E.ev o.op with
    | some s => val P s w fun v w' => K (.va v) w'
    | none => match opUnt E.ev o.op with
      | some s => unt P s w fun w' => K .un w'
      | none => match o.op with
        | .call c => match c.callee with
          | .value (.func f) => Ret P f (c.args.toList.map E.ev).toArray w fun v w' => K (.va v) w'
          | .value x => dyn P (E.ev x) (c.args.toList.map E.ev) w fun v w' => K (.va v) w'
          | _ => False
        | _ => False
  else False
/-- What an operation must find, and what holds behind it. -/
def opVc (P : Program) (E : Env) (o : Oper) (w : World) (K : Ent → World → Prop) : Prop :=
  match o.op with
  | .move x => mv (E.ent x) fun e => K e w
  | .assign x => mv (E.ent x) fun e => K e w
  | .pick c x y => pk (E.ent c) (E.ent x) (E.ent y) fun e => K e w
  | _ => opGen P E o w K

theorem eqGuard_bin (op : BinOp) (t : TypeId) (x y : Operand) (a b : Value) : eqGuard op t x y a b = eqGuard op t (bif (isC x || isC y) then .const undef else .tmp 0) (.tmp 0) a b := by
  cases x <;> cases y <;> rfl
theorem biSem_run {P : Program} {b : Builtin} {ts : Array TypeId} {ty : TypeId} {cs : Array Bool} {args : Array Value} {s : Sem Value} (h : biSem b ts ty args = some s) {w w' : World} {v : Value} (hr : s.run P w = .ok v w') :
    (builtin b ts ty cs args).run P w = .ok (.value v) w' := by
  cases b <;> simp only [biSem] at h <;> first
    | (injection h with h; subst h; simp only [builtin, Sem.run_bind, Sem.run_pure, hr, Result.andThen_ok]; done)
    | (cases h; done)
theorem map_toArr {α β : Type} (f : α → β) (a : Array α) : (a.toList.map f).toArray = a.map f := Array.ext' (Array.toList_map).symm
theorem nilc_run {P : Program} {x v : Value} {w w' : World} (h : (nilc x).run P w = .ok v w') {ρ : Operand → Value} {o : Oper} {y : Operand} (ho : o.op = .nilCheck y) (hx : ρ y = x) : (execOp ρ o).run P w = .ok (.value v) w' := by
  unfold execOp
  simp only [ho, hx]
  cases x with
  | pointer a => cases a with
    | none => simp [nilc] at h
    | some a => simp only [nilc, Sem.run_pure] at h ⊢; injection h with h1 h2; subst h1; subst h2; rfl
  | func fn first cap => cases fn <;> first
      | (simp only [nilc, Sem.run_pure] at h ⊢; injection h with h1 h2; subst h1; subst h2; rfl)
      | (simp [nilc] at h; done)
  | _ => simp [nilc] at h
theorem opSem_run {P : Program} {ρ : Operand → Value} {o : Oper} {s : Sem Value} (h : opSem o.type ρ o.op = some s) {w w' : World} {v : Value} (hr : s.run P w = .ok v w') : (execOp ρ o).run P w = .ok (.value v) w' := by
  cases ho : o.op with
  | nilCheck x => rw [ho] at h; injection h with h; subst h; exact nilc_run hr ho rfl
  | binOp op t x y t' =>
    rw [ho] at h; injection h with h; subst h
    unfold execOp
    simp only [ho]
    rw [eqGuard_bin]
    unfold bin at hr
    simp only [Sem.run_bind, Sem.run_pure] at hr ⊢
    rw [hr]; rfl
  | call c =>
    rw [ho] at h
    simp only [opSem] at h
    unfold execOp
    simp only [ho]
    cases hc : c.callee with
    | builtin b =>
      rw [hc] at h
      simp only [map_toArr] at h
      simp only [resolve, hc]
      exact biSem_run h hr
    | value f => rw [hc] at h; cases h
    | invoke r m => rw [hc] at h; cases h
  | build t ps =>
    rw [ho] at h; injection h with h; subst h
    unfold execOp
    simp only [ho, Sem.run_bind, Sem.run_pure]
    rw [map_toArr] at hr
    rw [hr]; rfl
  | buildSlice t n ps =>
    rw [ho] at h; injection h with h; subst h
    unfold execOp
    simp only [ho, Sem.run_bind, Sem.run_pure]
    rw [map_toArr] at hr
    rw [hr]; rfl
  | makeFunc fn f c =>
    rw [ho] at h; injection h with h; subst h
    unfold execOp
    simp only [ho, Sem.run_bind, Sem.run_pure]
    rw [map_toArr, map_toArr] at hr
    rw [hr]; rfl
  | _ =>
    rw [ho] at h
    first
      | (cases h; done)
      | (injection h with h; subst h; unfold execOp; simp only [ho, Sem.run_bind, Sem.run_pure, hr, Result.andThen_ok]; done)
theorem opUnt_run {P : Program} {ρ : Operand → Value} {o : Oper} {s : Sem Unit} (h : opUnt ρ o.op = some s) {w w' : World} (hr : s.run P w = .ok () w') : (execOp ρ o).run P w = .ok .skip w' := by
  cases ho : o.op <;> rw [ho] at h <;> first
    | (cases h; done)
    | (injection h with h; subst h; unfold execOp; simp only [ho, Sem.run_bind, Sem.run_pure, hr, Result.andThen_ok]; done)

/-! ### The fences in which we walk -/
structure OkF (F : Fence) : Prop where
  all : ∀ f, F.fn f
  depth : F.depth = none
  calls : ∀ {n : Nat} {P : Program} {f : FuncId} {args : Array Value} {w : World} {R : Ending → World → Prop}, Calls P f args w R → CallsIn F n P f args w R
  round : ∀ {n : Nat} {P : Program} {l : Nat} {f : FuncId} {tmps : Array Value} {x y : Code} {w : World} {R : Ending → World → Prop}, RoundIn Fence.wide 0 P l f tmps x y w R → RoundIn F n P l f tmps x y w R
theorem roundIn_any {n m : Nat} {P : Program} {l : Nat} {f : FuncId} {tmps : Array Value} {x y : Code} {w : World} {R : Ending → World → Prop} (h : RoundIn Fence.wide n P l f tmps x y w R) : RoundIn Fence.wide m P l f tmps x y w R :=
  ⟨trivial, fun c cs _ => h.2 c cs (room_wide _)⟩
theorem okWide : OkF Fence.wide := ⟨fun _ => trivial, rfl, fun h => callsIn_wide.2 h, roundIn_any⟩
theorem okRound (l : Nat) : OkF (Fence.wide.inRound l) := ⟨fun _ => trivial, rfl, fun h => CallsIn.inRound l (callsIn_wide.2 h), fun h => roundIn_any h⟩
theorem semAt_plain' (ro : Option Nat) (ρ : Operand → Value) (o : Oper) (h : ∀ c, o.op ≠ .defer c) : Oper.semAt ro ρ o = execOp ρ o := by
  cases ro with
  | none => exact Oper.semAt_none ρ o
  | some l => exact Oper.semAt_some l ρ o h
variable {F : Fence} {n : Nat} {P : Program}
theorem opVc_sound (hF : OkF F) {N : Nat} {E : Env} {a : Act} (hfit : Fits N E a) {o : Oper} {w : World} {K : Ent → World → Prop} (h : opVc P E o w K)
    {next : Act → World → Prop} {Q : Exit → Act → World → Prop} (hk : ∀ e w', K e w' → next (a.put o.dst e.val) w') : o.wpIn F n P a w next Q := by
  have hdep : ∀ {p : Prop}, F.depth.isSome = true → p := fun hd => by rw [hF.depth] at hd; cases hd
  have fin : (∀ c, o.op ≠ .defer c) → o.uponIn F n P a next Q ((execOp a.eval o).run P w) → o.wpIn F n P a w next Q := fun hd hu =>
    ⟨fun f _ => hF.all f, by rw [semAt_plain' _ _ _ hd]; exact hu⟩
  have one : ∀ {v : Value}, (execOp a.eval o).run P w = .ok (.value v) w → next (a.put o.dst v) w → o.uponIn F n P a next Q ((execOp a.eval o).run P w) := fun hr hn => by rw [hr]; exact hn
  cases ho : o.op with
  | move x =>
    simp only [opVc, ho] at h
    refine fin (by simp [ho]) ?_
    cases hx : E.ent x with
    | none => rw [hx] at h; exact h.elim
    | some e =>
      rw [hx] at h
      exact one (v := e.val) (by unfold execOp; simp only [ho, hfit.ent hx]; rfl) (hk _ _ h)
  | assign x =>
    simp only [opVc, ho] at h
    refine fin (by simp [ho]) ?_
    cases hx : E.ent x with
    | none => rw [hx] at h; exact h.elim
    | some e =>
      rw [hx] at h
      exact one (v := e.val) (by unfold execOp; simp only [ho, hfit.ent hx]; rfl) (hk _ _ h)
  | pick c x y =>
    simp only [opVc, ho] at h
    refine fin (by simp [ho]) ?_
    cases hc : E.ent c with
    | none => rw [hc] at h; exact h.elim
    | some ec =>
      rw [hc] at h
      cases ec with
      | un => exact h.elim
      | bo bb =>
        cases bb with
        | true =>
          cases hx : E.ent x with
          | none => rw [hx] at h; exact h.elim
          | some e => rw [hx] at h; exact one (v := e.val) (by unfold execOp; simp only [ho, hfit.ent hx, hfit.ent hc]; rfl) (hk _ _ h)
        | false =>
          cases hy : E.ent y with
          | none => rw [hy] at h; exact h.elim
          | some e => rw [hy] at h; exact one (v := e.val) (by unfold execOp; simp only [ho, hfit.ent hy, hfit.ent hc]; rfl) (hk _ _ h)
      | va v =>
        cases hx : E.ent x with
        | none => rw [hx] at h; exact h.elim
        | some ex =>
          cases hy : E.ent y with
          | none => rw [hx, hy] at h; exact h.elim
          | some ey =>
            rw [hx, hy] at h
            obtain ⟨bb, rfl, h⟩ := h
            cases bb with
            | true => exact one (v := ex.val) (by unfold execOp; simp only [ho, hfit.ent hx, hfit.ent hc, Ent.val]; rfl) (hk (.va ex.val) _ h)
            | false => exact one (v := ey.val) (by unfold execOp; simp only [ho, hfit.ent hy, hfit.ent hc, Ent.val]; rfl) (hk (.va ey.val) _ h)
  | select cs b => simp [opVc, opGen, ho, opSem, opUnt] at h
  | defer c => simp [opVc, opGen, ho, opSem, opUnt] at h
  | call c =>
    refine fin (by simp [ho]) ?_
    simp only [opVc, opGen, ho] at h
    cases hkn : kn E (opnds (.call c)) with
    | false => rw [hkn] at h; exact h.elim
    | true =>
      rw [hkn] at h
      have hag := hfit.kn (o := .call c) (by simp) hkn
      rw [execOp_congr (ρ := a.eval) (ρ' := E.ev) o (by simp [ho]) (by rw [ho]; exact hag)]
      simp only [cond_true] at h
      cases hs : opSem o.type E.ev (.call c) with
      | some s =>
        rw [hs] at h
        obtain ⟨v, w', hr, h⟩ := val_iff.1 h
        rw [← ho] at hs
        rw [opSem_run hs hr]
        exact hk _ _ h
      | none =>
        rw [hs] at h
        simp only [opUnt] at h
        have callee : ∀ (x : Operand) (v : Value), c.callee = .value x → E.ev x = v → ∀ (fn : Fn) (first cap : Array Value), v = .func fn first cap →
            (execOp E.ev o).run P w = (invoke (.fn fn cap) (first ++ (c.args.toList.map E.ev).toArray)).run P w := by
          intro x v hc hx fn first cap hv
          unfold execOp
          simp only [ho, resolve, hc, hx, hv, Deferred.ofValue, Sem.run_bind, Sem.run_pure, Result.andThen_ok, map_toArr]
        have enters : ∀ (f : FuncId) (first cap : Array Value) , (execOp E.ev o).run P w = (invoke (.fn (.func f) cap) (first ++ (c.args.toList.map E.ev).toArray)).run P w →
            Ret P f (first ++ (c.args.toList.map E.ev).toArray ++ cap) w (fun v w' => K (.va v) w') → o.uponIn F n P a next Q ((execOp E.ev o).run P w) := by
          intro f first cap he hR
          rw [he]
          simp only [invoke]
          rw [hR.1]
          refine ⟨fun hd => hdep hd, CallsIn.mono (hF.calls hR.2) ?_⟩
          rintro e w' ⟨v, rfl, hK⟩
          exact hk _ _ hK
        cases hc : c.callee with
        | builtin b => rw [hc] at h; exact h.elim
        | invoke r m => rw [hc] at h; exact h.elim
        | value x =>
          rw [hc] at h
          cases x with
          | func f =>
            refine enters f #[] #[] (callee _ _ hc rfl _ _ _ rfl) ?_
            simpa using h
          | _ =>
            simp only at h
            generalize hv : E.ev _ = v at h
            cases v with
            | func fn first cap =>
              cases fn with
              | func f => exact enters f first cap (callee _ _ hc hv _ _ _ rfl) h
              | yield l =>
                rw [callee _ _ hc hv _ _ _ rfl]
                obtain ⟨fn, tmps, x, y, hy, hR⟩ := h
                simp only [invoke, hy]
                refine ⟨fun hd => hdep hd, RoundIn.mono (hF.round hR) ?_⟩
                rintro e w' ⟨v, rfl, hK⟩
                exact hk _ _ hK
              | _ => exact h.elim
            | _ => exact h.elim
  | _ =>
    refine fin (by simp [ho]) ?_
    have h : opGen P E o w K := by simpa only [opVc, ho] using h
    unfold opGen at h
    cases hkn : kn E (opnds o.op) with
    | false => rw [hkn] at h; exact h.elim
    | true =>
      rw [hkn] at h
      rw [execOp_congr (ρ := a.eval) (ρ' := E.ev) o (by rw [ho]; simp) (hfit.kn (by rw [ho]; simp) hkn)]
      simp only [cond_true] at h
      cases hs : opSem o.type E.ev o.op with
      | some s =>
        rw [hs] at h
        obtain ⟨v, w', hr, h⟩ := val_iff.1 h
        rw [opSem_run hs hr]
        exact hk _ _ h
      | none =>
        rw [hs] at h
        cases hu : opUnt E.ev o.op with
        | some s =>
          rw [hu] at h
          obtain ⟨w', hr, h⟩ := unt_iff.1 h
          rw [opUnt_run hu hr]
          exact hk _ _ h
        | none => rw [hu, ho] at h; exact h.elim
theorem Ret.calls {f : FuncId} {args : Array Value} {w : World} {K : Value → World → Prop} (h : Ret P f args w K) : Calls P f args w fun e w' => ∃ v, e = .returned v ∧ K v w' := h.2
theorem Ret.enters {f : FuncId} {args : Array Value} {w : World} {K : Value → World → Prop} (h : Ret P f args w K) : Enters P f := h.1
theorem Ret.mk {f : FuncId} {args : Array Value} {w : World} {K : Value → World → Prop} (h1 : Enters P f) (h : Calls P f args w fun e w' => ∃ v, e = .returned v ∧ K v w') : Ret P f args w K := ⟨h1, h⟩
theorem dyn_func {f : FuncId} {first cap : Array Value} {args : List Value} {w : World} {K : Value → World → Prop} (h : Ret P f (first ++ args.toArray ++ cap) w K) : dyn P (.func (.func f) first cap) args w K := h
theorem dyn_yield {l : Nat} {first cap : Array Value} {args : List Value} {w : World} {K : Value → World → Prop} (h : Yld P l (first ++ args.toArray) w K) : dyn P (.func (.yield l) first cap) args w K := h
theorem pick3_iff {v x y : Value} {K : Value → Prop} : pick3 v x y K ↔ ∃ b, v = .bool b ∧ K (bif b then x else y) := Iff.rfl
attribute [irreducible] val unt dyn Ret pick3
end Go.Proofs.Ytchmcjimnliodaa
end
section
set_option linter.unusedSimpArgs false
set_option linter.unusedVariables false
/- A generator of verification conditions: regions, drawn ones too. No program in sight. -/
namespace Go.Proofs.Ytchmcjimnliodaa
open Go

/-! ### Guards -/
def dstAt (ops : List Oper) (j : Nat) : Option Tmp := (ops[j]?).bind (·.dst)
def gd (v : Value) (want : Bool) (A B : Prop) : Prop := ∃ b, v = .bool b ∧ (b = want → A) ∧ (b = !want → B)
def beqB : Bool → Bool → Bool
  | true, true => true
  | false, false => true
  | _, _ => false
theorem beqB_iff {a b : Bool} : beqB a b = true ↔ a = b := by cases a <;> cases b <;> simp [beqB]
theorem beqB_not {a b : Bool} : beqB a b = false ↔ a = !b := by cases a <;> cases b <;> simp [beqB]
def grd (ops : List Oper) (o : Oper) (E : Env) (run skip : Env → Prop) : Prop :=
  match o.guard with
  | none => run E
  | some (j, want) => match dstAt ops j with
    | none => False
    | some d => match E.get d with
      | some (.bo b) => bif beqB b want then run E else skip E
      | some .un => skip E
      | some (.va v) => gd v want (run (E.put (some d) (.bo want))) (skip (E.put (some d) (.bo !want)))
      | none => False
theorem Fits.know {N : Nat} {E : Env} {a : Act} (h : Fits N E a) {d : Nat} {b : Bool} (hd : E.get d = some (.va (.bool b))) : Fits N (E.put (some d) (.bo b)) a := by
  refine ⟨fun i e hi => ?_, h.size, h.defs⟩
  simp only [Env.put] at hi
  by_cases hid : i = d
  · subst hid
    simp only [Nat.beq_refl, cond_true, Option.some.injEq] at hi
    subst hi
    show a.tmps[i]? = some (.bool b)
    exact h.get i (.va (.bool b)) hd
  · have : Nat.beq i d = false := by
      cases hb : Nat.beq i d with
      | false => rfl
      | true => exact absurd (Nat.eq_of_beq_eq_true hb) hid
    rw [this] at hi
    exact h.get i e hi
theorem grd_sound {N : Nat} {E : Env} {a : Act} (hfit : Fits N E a) {ops : Array Oper} {o : Oper} {run skip : Env → Prop} (h : grd ops.toList o E run skip) :
    (Region.wanted o (yielded ops a.tmps) = true ∧ ∃ E', Fits N E' a ∧ run E') ∨ (Region.wanted o (yielded ops a.tmps) = false ∧ ∃ E', Fits N E' a ∧ skip E') := by
  unfold grd at h
  unfold Region.wanted
  cases hg : o.guard with
  | none => rw [hg] at h; exact .inl ⟨rfl, E, hfit, h⟩
  | some g =>
    obtain ⟨j, want⟩ := g
    rw [hg] at h
    simp only at h
    cases hd : dstAt ops.toList j with
    | none => rw [hd] at h; exact h.elim
    | some d =>
      rw [hd] at h
      simp only at h
      have hd' : (ops[j]?).bind (·.dst) = some d := by simpa [dstAt] using hd
      have hy : yielded ops a.tmps j = match a.tmps[d]? with | some (.bool b) => some b | _ => none := by
        unfold yielded
        rw [hd']; rfl
      cases he : E.get d with
      | none => rw [he] at h; exact h.elim
      | some e =>
        rw [he] at h
        have ht := hfit.get d e he
        simp only [hy, ht]
        cases e with
        | bo b =>
          cases b <;> cases want <;> first
            | exact .inl ⟨rfl, E, hfit, h⟩
            | exact .inr ⟨rfl, E, hfit, h⟩
        | un => exact .inr ⟨rfl, E, hfit, h⟩
        | va v =>
          obtain ⟨b, rfl, h1, h2⟩ := h
          cases b <;> cases want <;> first
            | exact .inl ⟨rfl, _, hfit.know he, h1 rfl⟩
            | exact .inr ⟨rfl, _, hfit.know he, h2 rfl⟩

/-! ### A region in the text's order -/
def vcOps (P : Program) (ops : List Oper) : List Oper → Env → World → (Env → World → Prop) → Prop
  | [], E, w, K => K E w
  | o :: rest, E, w, K => grd ops o E (fun E => opVc P E o w fun e w' => vcOps P ops rest (E.put o.dst e) w' K) (fun E => vcOps P ops rest (E.put o.dst .un) w K)
def dstsOk (N : Nat) (ops : List Oper) : Bool := ops.all fun o => dstOk N o.dst
variable {F : Fence} {n : Nat} {P : Program}
theorem vcOps_sound (hF : OkF F) {N : Nat} {ops : Array Oper} {K : Env → World → Prop} {Q : Exit → Act → World → Prop} {R : Act → Prop} (hR : ∀ a o v, o ∈ ops → R a → R (a.put o.dst v))
    (hQ : ∀ E a w, Fits N E a → R a → K E w → Q .normal a w) :
    ∀ (rest : List Oper) (k : Nat), (∀ j, rest[j]? = ops[k + j]?) → dstsOk N rest = true → ∀ (E : Env) (a : Act) (w : World), Fits N E a → R a → vcOps P ops.toList rest E w K →
      wpOpsIn F n P ops Q (List.range' k rest.length) a w := by
  intro rest
  induction rest with
  | nil => intro k _ _ E a w hfit hra h; exact hQ E a w hfit hra h
  | cons o rest ih =>
    intro k hk hd E a w hfit hra h
    have h0 : ops[k]? = some o := by simpa using (hk 0).symm
    have hom : o ∈ ops := Array.mem_of_getElem? h0
    have ih' := ih (k + 1) (fun j => by have := hk (j + 1); simpa [Nat.add_assoc, Nat.add_comm 1 j] using this) (by simp [dstsOk] at hd ⊢; exact hd.2)
    have hdo : dstOk N o.dst = true := by simp [dstsOk] at hd; exact hd.1
    simp only [List.length_cons, List.range'_succ, wpOpsIn, h0]
    rcases grd_sound hfit h with ⟨hw, E', hf, hr⟩ | ⟨hw, E', hf, hr⟩
    · rw [if_pos hw]
      exact opVc_sound hF hf hr fun e w' he => ih' _ _ _ (hf.put hdo e) (hR _ _ _ hom hra) he
    · rw [if_neg (by simp [hw])]
      exact ⟨fun f _ => hF.all f, ih' _ _ _ (hf.put hdo .un) (hR _ _ _ hom hra) hr⟩
theorem vcRegion_sound (hF : OkF F) {N : Nat} {id : Nat} {ops : Array Oper} {K : Env → World → Prop} {Q : Exit → Act → World → Prop} {R : Act → Prop} (hR : ∀ a o v, o ∈ ops → R a → R (a.put o.dst v)) (hQ : ∀ E a w, Fits N E a → R a → K E w → Q .normal a w)
    (hd : dstsOk N ops.toList = true) {E : Env} {a : Act} {w : World} (hfit : Fits N E a) (hra : R a) (h : vcOps P ops.toList ops.toList E w K) : (Code.region id ops false).wpIn F n P Q a w := by
  refine wpIn_region ?_
  rw [List.range_eq_range', ← Array.length_toList]
  exact vcOps_sound hF hR hQ ops.toList 0 (by simp) hd E a w hfit hra h

/-! ### A region that draws its order -/
inductive St where
  | nil
  | tk (i hi : Nat) (r : St)
  | one (i : Nat) (r : St)
  | two (i : Nat) (r : St) (j : Nat) (q : St)
def St.len : St → Nat
  | .nil => 0
  | .tk _ _ r => r.len + 1
  | .one _ r => r.len + 1
  | .two _ r _ _ => r.len + 1
def two (A B : Prop) : Prop := A ∧ B
def tk (P : Program) (T : Nat → World → Prop) (hi : Nat) (s : Sem Value) (K : Value → Prop) : Prop := ∃ v, (∀ p w, p ≤ hi → T p w → s.run P w = .ok v w) ∧ K v
def puR (r : World → Result Value) (K : Value → Prop) : Prop := ∃ v, (∀ w, r w = .ok v w) ∧ K v
def pu (P : Program) (s : Sem Value) (K : Value → Prop) : Prop := puR (fun w => s.run P w) K
def ph (T : Nat → World → Prop) (p : Nat) (w : World) (X : Prop) : Prop := T p w ∧ X
def isPure : Op → Bool
  | .build .. | .nilCheck .. | .unOp .. | .makeInterface .. | .makeFunc .. | .slice .. | .fieldAddr .. | .field .. | .indexAddr .. | .index .. | .extract .. | .binOp .. => true
  | _ => false
def opDG (P : Program) (E : Env) (T : Nat → World → Prop) (hi : Nat) (o : Oper) (K : Ent → Prop) : Prop :=
  bif kn E (opnds o.op) then
    match opSem o.type E.ev o.op with
    | some s => bif isPure o.op then pu P s fun v => K (.va v) else tk P T hi s fun v => K (.va v)
    | none => False
  else False
def opD (P : Program) (E : Env) (T : Nat → World → Prop) (hi : Nat) (o : Oper) (K : Ent → Prop) : Prop :=
  match o.op with
  | .move x => mv (E.ent x) K
  | .assign x => mv (E.ent x) K
  | .pick c x y => pk (E.ent c) (E.ent x) (E.ent y) K
  | _ => opDG P E T hi o K
def oneD (P : Program) (ops : List Oper) (T : Nat → World → Prop) (i p : Nat) (E : Env) (w : World) (X : Env → World → Prop) : Prop :=
  match ops[i]? with
  | none => False
  | some o => grd ops o E (fun E => opVc P E o w fun e w' => ph T (p + 1) w' (X (E.put o.dst e) w')) (fun E => ph T (p + 1) w (X (E.put o.dst .un) w))
def vcD (P : Program) (ops : List Oper) (T : Nat → World → Prop) : St → Nat → Env → World → (Env → World → Prop) → Prop
  | .nil, _, E, w, K => K E w
  | .tk i hi r, p, E, w, K => match ops[i]? with
    | none => False
    | some o => grd ops o E (fun E => opD P E T hi o fun e => vcD P ops T r p (E.put o.dst e) w K) (fun E => vcD P ops T r p (E.put o.dst .un) w K)
  | .one i r, p, E, w, K => oneD P ops T i p E w fun E w => vcD P ops T r (p + 1) E w K
  | .two i r j q, p, E, w, K => two (oneD P ops T i p E w fun E w => vcD P ops T r (p + 1) E w K) (oneD P ops T j p E w fun E w => vcD P ops T q (p + 1) E w K)
def drw (w : World) (B : (Nat → World → Prop) → World → Prop) : Prop := ∃ T : Nat → World → Prop, T 0 w.drew ∧ B T w.drew

/-! The checks, on lists. -/
def afterOk (o : Oper) (L : List Bool) : Bool := o.after.toList.all fun e => !Region.binds .any e || L.getD e.on false
def readyL (ops : List Oper) (L : List Bool) : List Nat :=
  (List.range ops.length).filter fun i => !L.getD i true && ((ops[i]?).map fun o => afterOk o L).getD false
def looksL (ops : List Oper) (o : Oper) : List Tmp :=
  ((opnds o.op).filterMap fun | .tmp t => some t | _ => none) ++ (match o.guard with | some (g, _) => (dstAt ops g).toList | none => [])
def memN (d : Nat) (l : List Nat) : Bool := l.any fun x => Nat.beq d x
def apartL (ops : List Oper) (x y : Oper) : Bool :=
  (match x.dst with
   | some d => !memN d (looksL ops y) && !(match y.dst with | some e => Nat.beq d e | none => false)
   | none => true) &&
  (match y.dst with
   | some d => !memN d (looksL ops x)
   | none => true)
def freeL (ops : List Oper) (L : List Bool) (i : Nat) : Bool :=
  match ops[i]? with
  | none => false
  | some oi => (List.range ops.length).all fun j => Nat.beq j i || L.getD j true || match ops[j]? with
      | some oj => oj.after.toList.any (fun e => Region.binds .any e && Nat.beq e.on i) || apartL ops oi oj
      | none => true
def reach (ops : List Oper) : Nat → Nat → Nat → Bool
  | 0, _, _ => false
  | k + 1, c, i => match ops[c]? with
    | some o => o.after.toList.any fun e => Region.binds .any e && (Nat.beq e.on i || reach ops k e.on i)
    | none => false
def hiOk (ops : List Oper) (C : List Nat) (i hi : Nat) : Bool := Nat.ble (C.countP fun c => !reach ops ops.length c i) hi
def nC (C : List Nat) (L : List Bool) : Nat := C.countP fun c => L.getD c false
def oneOk (C : List Nat) (i p : Nat) (L : List Bool) : Bool := Nat.beq (nC C (L.set i true)) (p + 1)
def stepsOk (ops : List Oper) (C : List Nat) : St → Nat → List Bool → Bool
  | .nil, _, L => (readyL ops L).isEmpty
  | .tk i hi r, p, L => freeL ops L i && memN i (readyL ops L) && !memN i C && hiOk ops C i hi && stepsOk ops C r p (L.set i true)
  | .one i r, p, L => (match readyL ops L with | [j] => Nat.beq i j | _ => false) && oneOk C i p L && stepsOk ops C r (p + 1) (L.set i true)
  | .two i r k q, p, L => (match readyL ops L with | [a, b] => Nat.beq i a && Nat.beq k b | _ => false) && (oneOk C i p L && stepsOk ops C r (p + 1) (L.set i true)) && (oneOk C k p L && stepsOk ops C q (p + 1) (L.set k true)) && Nat.beq r.len q.len
def plainL (ops : List Oper) : Bool := ops.all fun o => match o.op with | .defer _ => false | .select _ _ => false | _ => true
def ones : St → List Nat
  | .nil => []
  | .tk _ _ r => ones r
  | .one i r => i :: ones r
  | .two i r _ _ => i :: ones r
def drawOk (ops : List Oper) (l : St) : Bool := plainL ops && Nat.beq l.len ops.length && stepsOk ops (ones l) l 0 (List.replicate ops.length false)

theorem memN_iff {d : Nat} {l : List Nat} : memN d l = true ↔ d ∈ l := by
  unfold memN
  rw [List.any_eq_true]
  constructor
  · rintro ⟨x, hx, h⟩; rw [Nat.eq_of_beq_eq_true h]; exact hx
  · intro h; exact ⟨d, h, Nat.beq_refl d⟩
theorem beq_iff' {a b : Nat} : Nat.beq a b = true ↔ a = b := ⟨Nat.eq_of_beq_eq_true, fun h => h ▸ Nat.beq_refl a⟩
theorem ready_eq (ops : Array Oper) (L : Array Bool) : Region.ready .any ops L = readyL ops.toList L.toList := by
  unfold Region.ready readyL
  simp only [Array.length_toList]
  congr 1
  funext i
  simp only [Array.getElem?_toList, afterOk]
  congr 1
  · simp [Array.getD_eq_getD_getElem?, List.getD_eq_getElem?_getD]
  · congr 1
    congr 1
    funext o
    simp [Array.getD_eq_getD_getElem?, List.getD_eq_getElem?_getD, Array.all_toList]
theorem looks_sub {ops : Array Oper} {o : Oper} (hs : ∀ cs b, o.op ≠ .select cs b) {d : Tmp} (h : d ∈ o.looksAt ops) : d ∈ looksL ops.toList o := by
  unfold Oper.looksAt at h
  unfold looksL
  rw [List.mem_append] at h ⊢
  refine h.imp (fun h => ?_) (fun h => ?_)
  · rw [List.mem_filterMap] at h ⊢
    obtain ⟨x, hx, he⟩ := h
    exact ⟨x, mem_opnds hs (by simpa using hx), he⟩
  · cases hg : o.guard with
    | none => rw [hg] at h; simp at h
    | some g => rw [hg] at h; simpa [dstAt] using h
theorem apartL_spec {ops : Array Oper} {x y : Oper} (hx : ∀ cs b, x.op ≠ .select cs b) (hy : ∀ cs b, y.op ≠ .select cs b) (h : apartL ops.toList x y = true) :
    (∀ d, x.dst = some d → d ∉ y.looksAt ops) ∧ (∀ d, x.dst = some d → y.dst ≠ some d) ∧ (∀ d, y.dst = some d → d ∉ x.looksAt ops) := by
  unfold apartL at h
  rw [Bool.and_eq_true] at h
  refine ⟨fun d hd hl => ?_, fun d hd hl => ?_, fun d hd hl => ?_⟩
  · have h1 := h.1
    rw [hd] at h1
    simp only [Bool.and_eq_true, Bool.not_eq_true'] at h1
    have := memN_iff.2 (looks_sub hy hl)
    rw [h1.1] at this; cases this
  · have h1 := h.1
    rw [hd] at h1
    simp only [Bool.and_eq_true, Bool.not_eq_true', hl, Nat.beq_refl] at h1
    exact absurd h1.2 (by simp)
  · have h1 := h.2
    rw [hd] at h1
    simp only [Bool.not_eq_true'] at h1
    have := memN_iff.2 (looks_sub hx hl)
    rw [h1] at this; cases this

/-! Whatever the order. -/
section draw
variable {ops : Array Oper} {Q : Exit → Act → World → Prop} {T : Nat → World → Prop} {C : List Nat}
def wpP (F : Fence) (n : Nat) (P : Program) (ops : Array Oper) (Q : Exit → Act → World → Prop) (T : Nat → World → Prop) (C : List Nat) : Nat → Array Bool → Act → World → Prop
  | 0, L, a, w => T (nC C L.toList) w ∧ Region.ready .any ops L = [] ∧ Q .normal a w
  | k + 1, L, a, w => T (nC C L.toList) w ∧ (Region.ready .any ops L = [] → Q .normal a w) ∧ ∀ i ∈ Region.ready .any ops L, wpOpIn F n P ops Q i (wpP F n P ops Q T C k (L.setIfInBounds i true)) a w
theorem wpP.any {k : Nat} : ∀ {L : Array Bool} {a : Act} {w : World}, wpP F n P ops Q T C k L a w → wpAnyIn F n P .any ops Q k L a w := by
  induction k with
  | zero => intro L a w h; exact h.2
  | succ k ih => intro L a w h; exact ⟨h.2.1, fun i hi => wpOpIn_mono (fun _ _ => ih) (h.2.2 i hi)⟩
def Closed (ops : Array Oper) (L : Array Bool) : Prop := ∀ c o, ops[c]? = some o → L.getD c false = true → ∀ e ∈ o.after, Region.binds .any e = true → L.getD e.on false = true
theorem getD_set {L : Array Bool} {i j : Nat} (h : L.getD j false = true) : (L.setIfInBounds i true).getD j false = true := by
  rw [Array.getD_eq_getD_getElem?] at h ⊢
  rw [Array.getElem?_setIfInBounds]
  by_cases hij : i = j
  · subst hij
    cases hq : L[i]? with
    | none => rw [hq] at h; cases h
    | some b => simp [(Array.getElem?_eq_some_iff.1 hq).1]
  · simpa [hij] using h
theorem Closed.step {L : Array Bool} (h : Closed ops L) {i : Nat} (hi : i ∈ Region.ready .any ops L) : Closed ops (L.setIfInBounds i true) := by
  intro c o hc hl e he hb
  by_cases hci : c = i
  · subst hci
    obtain ⟨_, o', ho', hall⟩ := mem_ready.1 hi
    rw [hc] at ho'; injection ho' with ho'; subst ho'
    exact getD_set (hall e he hb)
  · refine getD_set (h c o hc ?_ e he hb)
    rw [Array.getD_eq_getD_getElem?] at hl ⊢
    rw [Array.getElem?_setIfInBounds, if_neg (fun e : i = c => hci e.symm)] at hl
    exact hl
theorem Closed.reach {L : Array Bool} (h : Closed ops L) : ∀ (k c i : Nat), reach ops.toList k c i = true → L.getD c false = true → L.getD i false = true := by
  intro k
  induction k with
  | zero => intro c i hr; cases hr
  | succ k ih =>
    intro c i hr hl
    unfold Ytchmcjimnliodaa.reach at hr
    cases hc : ops.toList[c]? with
    | none => rw [hc] at hr; cases hr
    | some o =>
      rw [hc] at hr
      simp only [List.any_eq_true, Bool.and_eq_true, Bool.or_eq_true] at hr
      obtain ⟨e, he, hb, hr⟩ := hr
      have h1 := h c o (by simpa using hc) hl e (by simpa using he) hb
      rcases hr with hr | hr
      · rw [← beq_iff'.1 hr]; exact h1
      · exact ih _ _ hr h1
theorem Closed.hi {L : Array Bool} (h : Closed ops L) {i hi : Nat} (hh : hiOk ops.toList C i hi = true) (hu : L.getD i true = false) : nC C L.toList ≤ hi := by
  refine Nat.le_trans ?_ (Nat.le_of_ble_eq_true hh)
  refine List.countP_mono_left fun c _ hc => ?_
  have hc : L.getD c false = true := by simpa [Array.getD_eq_getD_getElem?, List.getD_eq_getElem?_getD] using hc
  cases hr : Ytchmcjimnliodaa.reach ops.toList ops.toList.length c i with
  | false => rfl
  | true =>
    have := h.reach _ _ _ hr hc
    rw [Array.getD_eq_getD_getElem?] at this hu
    cases hq : L[i]? with
    | none => rw [hq] at this; cases this
    | some b => rw [hq] at this hu; simp at this hu; rw [this] at hu; cases hu
theorem nC_set {L : Array Bool} {i : Nat} (h : i ∉ C) : nC C (L.setIfInBounds i true).toList = nC C L.toList := by
  unfold nC
  refine List.countP_congr fun c hc => ?_
  have : i ≠ c := fun e => h (e ▸ hc)
  simp [List.getD_eq_getElem?_getD, this]
def YieldsP (P : Program) (ops : Array Oper) (T : Nat → World → Prop) (hi : Nat) (o : Oper) (v : Value) (a : Act) : Prop :=
  (Region.wanted o (yielded ops a.tmps) = true ∧ ∀ p w, p ≤ hi → T p w → (execOp a.eval o).run P w = .ok (.value v) w) ∨ (Region.wanted o (yielded ops a.tmps) = false ∧ v = undef)
theorem YieldsP.of_same {hi : Nat} {o : Oper} {v : Value} {a a' : Act} (hy : YieldsP P ops T hi o v a) (he : execOp a'.eval o = execOp a.eval o)
    (hw : Region.wanted o (yielded ops a'.tmps) = Region.wanted o (yielded ops a.tmps)) : YieldsP P ops T hi o v a' := by
  unfold YieldsP at *
  rw [he, hw]; exact hy
theorem plainL_spec (h : plainL ops.toList = true) {j : Nat} {o : Oper} (hj : ops[j]? = some o) : (∀ c, o.op ≠ .defer c) ∧ (∀ cs b, o.op ≠ .select cs b) := by
  have h2 := List.all_eq_true.1 h o (Array.mem_toList_iff.2 (Array.mem_of_getElem? hj))
  refine ⟨fun c hc => ?_, fun cs b hc => ?_⟩ <;> (rw [hc] at h2; cases h2)
variable (hF : OkF F) (hpl : plainL ops.toList = true)
include hF hpl
theorem YieldsP.wpOpIn {i hi : Nat} {o : Oper} {v : Value} {a : Act} (hi' : ops[i]? = some o) (hy : YieldsP P ops T hi o v a) {K : Act → World → Prop} {w : World} {p : Nat} (hp : p ≤ hi) (hT : T p w) (h : K (a.put o.dst v) w) : wpOpIn F n P ops Q i K a w := by
  unfold Go.wpOpIn
  simp only [hi']
  rcases hy with ⟨hw, hv⟩ | ⟨hw, rfl⟩
  · simp only [hw, if_true, Oper.wpIn, semAt_plain' _ _ _ (plainL_spec hpl hi').1, hv p w hp hT, Oper.uponIn]
    exact ⟨fun f _ => hF.all f, h⟩
  · simp only [hw, Bool.false_eq_true, if_false]
    exact ⟨fun f _ => hF.all f, h⟩
theorem wpOpIn_putP {i j hi : Nat} {oi oj : Oper} {v : Value} (hi' : ops[i]? = some oi) (hj : ops[j]? = some oj) (hap : apartL ops.toList oi oj = true)
    (hQ : ∀ c a w, ¬ Q (.panic c) a w) {K : Act → World → Prop} {a : Act} {w : World}
    (hy : YieldsP P ops T hi oi v a) (h : wpOpIn F n P ops Q j K (a.put oi.dst v) w) :
    wpOpIn F n P ops Q j (fun a' w' => YieldsP P ops T hi oi v a' ∧ K (a'.put oi.dst v) w') a w := by
  obtain ⟨hdi, hsi⟩ := plainL_spec hpl hi'
  obtain ⟨hdj, hsj⟩ := plainL_spec hpl hj
  obtain ⟨h1, h2, h3⟩ := apartL_spec hsi hsj hap
  have keep : ∀ u, YieldsP P ops T hi oi v (a.put oj.dst u) := fun u => hy.of_same (execOp_put oi hsi a oj.dst u h3) (wanted_put oi a oj.dst u h3)
  have sw : ∀ u w', K ((a.put oi.dst v).put oj.dst u) w' → YieldsP P ops T hi oi v (a.put oj.dst u) ∧ K ((a.put oj.dst u).put oi.dst v) w' := fun u w' hk =>
    ⟨keep u, by rw [← Act.put_comm a v u h2]; exact hk⟩
  unfold Go.wpOpIn at *
  simp only [hj] at *
  rw [wanted_put oj a oi.dst v h1] at h
  by_cases hw : Region.wanted oj (yielded ops a.tmps) = true
  · rw [if_pos hw] at h ⊢
    unfold Oper.wpIn at *
    refine ⟨fun f _ => hF.all f, ?_⟩
    have h := h.2
    rw [semAt_plain' _ _ _ hdj, execOp_put oj hsj a oi.dst v h1] at h
    rw [semAt_plain' _ _ _ hdj]
    cases hr : (execOp a.eval oj).run P w with
    | ok x w' =>
      rw [hr] at h
      cases x with
      | value u => exact sw u w' h
      | skip => exact sw undef w' h
      | defer d =>
        obtain ⟨k1, k2⟩ := (show _ ∧ _ from ⟨(hy.of_same (a' := { a with defers := d :: a.defers }) rfl rfl).of_same (execOp_put oi hsi _ oj.dst undef h3) (wanted_put oi _ oj.dst undef h3), h⟩)
        refine ⟨k1, ?_⟩
        rw [← Act.put_comm _ v undef h2, ← Act.put_defers]
        exact k2
      | enter f args =>
        refine ⟨h.1, CallsIn.mono h.2 fun e w'' he => ?_⟩
        cases e with
        | returned u => exact sw u w'' he
        | panicked c => exact absurd he (hQ _ _ _)
        | outgrown => exact he
      | row row args => exact ⟨h.1, RowsIn.mono h.2 fun u w'' he => sw u w'' he⟩
      | round l f tmps assign body =>
        refine ⟨h.1, RoundIn.mono h.2 fun e w'' he => ?_⟩
        cases e with
        | returned u => exact sw u w'' he
        | panicked c => exact absurd he (hQ _ _ _)
        | outgrown => exact he
      | _ => exact h
    | halt x w' =>
      rw [hr] at h
      cases x with
      | panic u => exact absurd h (hQ _ _ _)
      | _ => exact h
  · rw [if_neg hw] at h ⊢
    exact ⟨fun f _ => hF.all f, sw undef w h.2⟩
theorem wpP_first {i hi : Nat} {oi : Oper} {v : Value} (hi' : ops[i]? = some oi) (hC : i ∉ C) (hh : hiOk ops.toList C i hi = true) (hQ : ∀ c a w, ¬ Q (.panic c) a w) :
    ∀ (k : Nat) (L : Array Bool) (a : Act) (w : World),
      (∀ j oj, ops[j]? = some oj → j ≠ i → L.getD j true = false → (∀ e ∈ oj.after, Region.binds .any e = true → e.on ≠ i) → apartL ops.toList oi oj = true) → Closed ops L → i ∈ Region.ready .any ops L → YieldsP P ops T hi oi v a →
      wpP F n P ops Q T C k (L.setIfInBounds i true) (a.put oi.dst v) w → wpP F n P ops Q T C (k + 1) L a w := by
  intro k
  induction k with
  | zero =>
    intro L a w _ hcl hr hy H
    have hT : T (nC C L.toList) w := by have := H.1; rwa [nC_set hC] at this
    refine ⟨hT, fun h => (by rw [h] at hr; cases hr), fun j hj => ?_⟩
    by_cases hji : j = i
    · subst hji; exact hy.wpOpIn hF hpl hi' (hcl.hi hh (mem_ready.1 hr).1) hT H
    · have := ready_mono hj hji
      rw [H.2.1] at this
      cases this
  | succ k ih =>
    intro L a w hf hcl hr hy H
    have hT : T (nC C L.toList) w := by have := H.1; rwa [nC_set hC] at this
    refine ⟨hT, fun h => (by rw [h] at hr; cases hr), fun j hj => ?_⟩
    by_cases hji : j = i
    · subst hji; exact hy.wpOpIn hF hpl hi' (hcl.hi hh (mem_ready.1 hr).1) hT H
    · have h1 := H.2.2 j (ready_mono hj hji)
      obtain ⟨hjun, oj, hoj, hall'⟩ := mem_ready.1 hj
      have hiun := (mem_ready.1 hr).1
      have hnot : ∀ e ∈ oj.after, Region.binds .any e = true → e.on ≠ i := fun e he hb heq => by
        have h1 := hall' e he hb
        rw [heq] at h1
        rw [Array.getD_eq_getD_getElem?] at h1 hiun
        cases hl : L[i]? with
        | none => rw [hl] at h1; cases h1
        | some b => rw [hl] at h1 hiun; simp at h1 hiun; rw [h1] at hiun; cases hiun
      have hap := hf j oj hoj hji hjun hnot
      have h2 := wpOpIn_putP hF hpl hi' hoj hap hQ hy h1
      refine wpOpIn_mono (fun a' w' h3 => ih (L.setIfInBounds j true) a' w' ?_ (hcl.step hj) (ready_mono hr (Ne.symm hji)) h3.1 ?_) h2
      · intro k' ok hk hki hun hno
        refine hf k' ok hk hki ?_ hno
        by_cases hjk : j = k'
        · subst hjk; exact hjun
        · rw [getD_set_ne true hjk] at hun; exact hun
      · rw [Array.setIfInBounds_comm _ _ hji]
        exact h3.2
omit hF hpl in
theorem wpP_done {k : Nat} {L : Array Bool} {a : Act} {w : World} (hr : Region.ready .any ops L = []) (hT : T (nC C L.toList) w) (h : Q .normal a w) : wpP F n P ops Q T C k L a w := by
  cases k with
  | zero => exact ⟨hT, hr, h⟩
  | succ k => exact ⟨hT, fun _ => h, fun i hi => by rw [hr] at hi; cases hi⟩
omit hF hpl in
theorem freeL_spec {i : Nat} {oi : Oper} {L : Array Bool} (hi : ops[i]? = some oi) (h : freeL ops.toList L.toList i = true) (j : Nat) (oj : Oper)
    (hj : ops[j]? = some oj) (hne : j ≠ i) (hun : L.getD j true = false) (hno : ∀ e ∈ oj.after, Region.binds .any e = true → e.on ≠ i) : apartL ops.toList oi oj = true := by
  unfold freeL at h
  rw [Array.getElem?_toList, hi] at h
  simp only [List.all_eq_true, List.mem_range] at h
  have hlt : j < ops.toList.length := by simpa using (Array.getElem?_eq_some_iff.1 hj).1
  have h1 := h j hlt
  rw [Array.getElem?_toList, hj] at h1
  have hun' : L.toList.getD j true = false := by simpa [Array.getD_eq_getD_getElem?, List.getD_eq_getElem?_getD] using hun
  have hb : Nat.beq j i = false := by
    cases hb : Nat.beq j i with
    | false => rfl
    | true => exact absurd (beq_iff'.1 hb) hne
  simp only [hb, hun', Bool.false_or, Bool.or_eq_true, List.any_eq_true, Bool.and_eq_true] at h1
  rcases h1 with ⟨e, he, hb, hon⟩ | h1
  · exact absurd (beq_iff'.1 hon) (hno e (by simpa using he) hb)
  · exact h1
omit hF hpl in
theorem opD_sound {N : Nat} {E : Env} {a : Act} (hfit : Fits N E a) {o : Oper} {hi : Nat} {K : Ent → Prop} (h : opD P E T hi o K) (hs : ∀ cs b, o.op ≠ .select cs b) :
    ∃ e, K e ∧ ∀ p w, p ≤ hi → T p w → (execOp a.eval o).run P w = .ok (.value e.val) w := by
  cases ho : o.op with
  | move x =>
    simp only [opD, ho] at h
    cases hx : E.ent x with
    | none => rw [hx] at h; exact h.elim
    | some e => rw [hx] at h; exact ⟨e, h, fun p w _ _ => by unfold execOp; simp only [ho, hfit.ent hx]; rfl⟩
  | assign x =>
    simp only [opD, ho] at h
    cases hx : E.ent x with
    | none => rw [hx] at h; exact h.elim
    | some e => rw [hx] at h; exact ⟨e, h, fun p w _ _ => by unfold execOp; simp only [ho, hfit.ent hx]; rfl⟩
  | pick c x y =>
    simp only [opD, ho] at h
    cases hc : E.ent c with
    | none => rw [hc] at h; exact h.elim
    | some ec =>
      rw [hc] at h
      cases ec with
      | un => exact h.elim
      | bo bb =>
        cases bb with
        | true =>
          cases hx : E.ent x with
          | none => rw [hx] at h; exact h.elim
          | some e => rw [hx] at h; exact ⟨e, h, fun p w _ _ => by unfold execOp; simp only [ho, hfit.ent hx, hfit.ent hc]; rfl⟩
        | false =>
          cases hy : E.ent y with
          | none => rw [hy] at h; exact h.elim
          | some e => rw [hy] at h; exact ⟨e, h, fun p w _ _ => by unfold execOp; simp only [ho, hfit.ent hy, hfit.ent hc]; rfl⟩
      | va v =>
        cases hx : E.ent x with
        | none => rw [hx] at h; exact h.elim
        | some ex =>
          cases hy : E.ent y with
          | none => rw [hx, hy] at h; exact h.elim
          | some ey =>
            rw [hx, hy] at h
            obtain ⟨bb, rfl, hk⟩ := pick3_iff.1 h
            cases bb with
            | true => exact ⟨_, hk, fun p w _ _ => by unfold execOp; simp only [ho, hfit.ent hx, hfit.ent hc, Ent.val]; rfl⟩
            | false => exact ⟨_, hk, fun p w _ _ => by unfold execOp; simp only [ho, hfit.ent hy, hfit.ent hc, Ent.val]; rfl⟩
  | _ =>
    have h : opDG P E T hi o K := by simpa only [opD, ho] using h
    unfold opDG at h
    cases hkn : kn E (opnds o.op) with
    | false => rw [hkn] at h; exact h.elim
    | true =>
      rw [hkn] at h
      rw [execOp_congr (ρ := a.eval) (ρ' := E.ev) o hs (hfit.kn hs hkn)]
      simp only [cond_true] at h
      cases hsm : opSem o.type E.ev o.op with
      | none => rw [hsm] at h; exact h.elim
      | some s =>
        rw [hsm] at h
        simp only at h
        cases hb : isPure o.op with
        | true =>
          rw [hb] at h
          obtain ⟨v, hv, h⟩ := h
          exact ⟨_, h, fun p w _ _ => opSem_run hsm (hv w)⟩
        | false =>
          rw [hb] at h
          obtain ⟨v, hv, h⟩ := h
          exact ⟨_, h, fun p w hp hT => opSem_run hsm (hv p w hp hT)⟩
theorem vcD_sound {N : Nat} {K : Env → World → Prop} {R : Act → Prop} (hR : ∀ a o v, o ∈ ops → R a → R (a.put o.dst v)) (hQ : ∀ E a w, Fits N E a → R a → K E w → Q .normal a w) (hQp : ∀ c a w, ¬ Q (.panic c) a w) (hd : dstsOk N ops.toList = true) :
    ∀ (l : St) (p : Nat) (L : Array Bool), stepsOk ops.toList C l p L.toList = true → nC C L.toList = p → Closed ops L → ∀ (E : Env) (a : Act) (w : World), Fits N E a → R a → T p w →
      vcD P ops.toList T l p E w K → wpP F n P ops Q T C l.len L a w := by
  have hdst : ∀ {i : Nat} {o : Oper}, ops[i]? = some o → dstOk N o.dst = true := fun hi => List.all_eq_true.1 hd _ (Array.mem_toList_iff.2 (Array.mem_of_getElem? hi))
  intro l
  have oneS : ∀ (r : St), (∀ (p : Nat) (L : Array Bool), stepsOk ops.toList C r p L.toList = true → nC C L.toList = p → Closed ops L → ∀ (E : Env) (a : Act) (w : World), Fits N E a → R a → T p w → vcD P ops.toList T r p E w K → wpP F n P ops Q T C r.len L a w) →
      ∀ (i p : Nat) (L : Array Bool), i ∈ Region.ready .any ops L → oneOk C i p L.toList = true → stepsOk ops.toList C r (p + 1) (L.toList.set i true) = true → Closed ops L → ∀ (E : Env) (a : Act) (w : World), Fits N E a → R a →
      oneD P ops.toList T i p E w (fun E w => vcD P ops.toList T r (p + 1) E w K) → wpOpIn F n P ops Q i (wpP F n P ops Q T C r.len (L.setIfInBounds i true)) a w := by
    intro r ih i p L hmem hn hc hcl E a w hfit hra h
    have hset : (L.setIfInBounds i true).toList = L.toList.set i true := by simp
    obtain ⟨hiun, oi, hoi, _⟩ := mem_ready.1 hmem
    have hom : oi ∈ ops := Array.mem_of_getElem? hoi
    simp only [oneD, Array.getElem?_toList, hoi] at h
    have hn' : nC C (L.setIfInBounds i true).toList = p + 1 := by rw [hset]; exact beq_iff'.1 hn
    unfold Go.wpOpIn
    simp only [hoi]
    rcases grd_sound hfit h with ⟨hw, E', hf, hr'⟩ | ⟨hw, E', hf, hr'⟩
    · rw [if_pos hw]
      exact opVc_sound hF hf hr' fun e w' he => ih (p + 1) _ (by rw [hset]; exact hc) hn' (hcl.step hmem) _ _ _ (hf.put (hdst hoi) e) (hR _ _ _ hom hra) he.1 he.2
    · rw [if_neg (by simp [hw])]
      exact ⟨fun f _ => hF.all f, ih (p + 1) _ (by rw [hset]; exact hc) hn' (hcl.step hmem) _ _ _ (hf.put (hdst hoi) .un) (hR _ _ _ hom hra) hr'.1 hr'.2⟩
  induction l with
  | nil =>
    intro p L hc hp hcl E a w hfit hra hT h
    have hr : Region.ready .any ops L = [] := by rw [ready_eq]; simpa [stepsOk] using hc
    exact wpP_done hr (hp ▸ hT) (hQ E a w hfit hra h)
  | tk i hi r ih =>
    intro p L hc hp hcl E a w hfit hra hT h
    simp only [stepsOk, Bool.and_eq_true] at hc
    obtain ⟨⟨⟨⟨hfree, hrd⟩, hC⟩, hh⟩, hc⟩ := hc
    rw [memN_iff, ← ready_eq] at hrd
    have hC : i ∉ C := fun hm => by rw [memN_iff.2 hm] at hC; cases hC
    obtain ⟨hiun, oi, hoi, _⟩ := mem_ready.1 hrd
    have hom : oi ∈ ops := Array.mem_of_getElem? hoi
    simp only [vcD, Array.getElem?_toList, hoi] at h
    have hset : (L.setIfInBounds i true).toList = L.toList.set i true := by simp
    rcases grd_sound hfit h with ⟨hw, E', hf, hr⟩ | ⟨hw, E', hf, hr⟩
    · obtain ⟨e, hr, hy⟩ := opD_sound hf hr (plainL_spec hpl hoi).2
      exact wpP_first hF hpl hoi hC hh hQp _ _ _ _ (freeL_spec hoi hfree) hcl hrd (.inl ⟨hw, hy⟩)
        (ih p _ (by rw [hset]; exact hc) (by rw [nC_set hC]; exact hp) (hcl.step hrd) _ _ _ (hf.put (hdst hoi) e) (hR _ _ _ hom hra) hT hr)
    · exact wpP_first hF hpl hoi hC hh hQp _ _ _ _ (freeL_spec hoi hfree) hcl hrd (.inr ⟨hw, rfl⟩)
        (ih p _ (by rw [hset]; exact hc) (by rw [nC_set hC]; exact hp) (hcl.step hrd) _ _ _ (hf.put (hdst hoi) .un) (hR _ _ _ hom hra) hT hr)
  | one i r ih =>
    intro p L hc hp hcl E a w hfit hra hT h
    simp only [stepsOk, Bool.and_eq_true] at hc
    obtain ⟨⟨hrd, hn⟩, hc⟩ := hc
    have hr : Region.ready .any ops L = [i] := by
      rw [ready_eq]
      generalize readyL ops.toList L.toList = q at hrd
      match q, hrd with
      | [j], hrd => rw [beq_iff'.1 hrd]
    have hmem : i ∈ Region.ready .any ops L := by rw [hr]; simp
    refine ⟨hp ▸ hT, fun h0 => (by rw [hr] at h0; cases h0), fun j hj => ?_⟩
    rw [hr] at hj
    simp at hj
    subst hj
    exact oneS r ih _ _ _ hmem hn hc hcl _ _ _ hfit hra h
  | two i r k q ihr ihq =>
    intro p L hc hp hcl E a w hfit hra hT h
    simp only [stepsOk, Bool.and_eq_true] at hc
    obtain ⟨⟨⟨hrd, hn1, hc1⟩, hn2, hc2⟩, hlen⟩ := hc
    have hr : Region.ready .any ops L = [i, k] := by
      rw [ready_eq]
      generalize readyL ops.toList L.toList = q at hrd
      match q, hrd with
      | [a, b], hrd =>
        simp only [Bool.and_eq_true] at hrd
        rw [beq_iff'.1 hrd.1, beq_iff'.1 hrd.2]
    refine ⟨hp ▸ hT, fun h0 => (by rw [hr] at h0; cases h0), fun j hj => ?_⟩
    have hmem := hj
    rw [hr] at hj
    simp at hj
    rcases hj with rfl | rfl
    · exact oneS r ihr _ _ _ hmem hn1 hc1 hcl _ _ _ hfit hra h.1
    · have := oneS q ihq _ _ _ hmem hn2 hc2 hcl _ _ _ hfit hra h.2
      rw [← beq_iff'.1 hlen] at this
      exact this
end draw
theorem vcDraw_sound (hF : OkF F) (hm : P.follows .mixedOrders = true) {N : Nat} {id : Nat} {ops : Array Oper} {K : Env → World → Prop} {Q : Exit → Act → World → Prop} {R : Act → Prop} (hR : ∀ a o v, o ∈ ops → R a → R (a.put o.dst v)) (hQ : ∀ E a w, Fits N E a → R a → K E w → Q .normal a w)
    (hQp : ∀ c a w, ¬ Q (.panic c) a w) (hd : dstsOk N ops.toList = true) {l : St} (hl : drawOk ops.toList l = true) {E : Env} {a : Act} {w : World} (hfit : Fits N E a) (hra : R a)
    (h : drw w fun T w' => vcD P ops.toList T l 0 E w' K) : (Code.region id ops true).wpIn F n P Q a w := by
  unfold drawOk at hl
  simp only [Bool.and_eq_true] at hl
  obtain ⟨⟨hpl, hlen⟩, hst⟩ := hl
  obtain ⟨T, hT, h⟩ := h
  refine wpIn_region_any hm (wpP.any (T := T) (C := ones l) ?_)
  rw [← Array.length_toList, ← beq_iff'.1 hlen]
  refine vcD_sound hF hpl hR hQ hQp hd l 0 _ ?_ ?_ ?_ E a _ hfit hra hT h
  · rw [beq_iff'.1 hlen]; simpa using hst
  · simp only [nC]
    rw [List.countP_eq_zero]
    intro c _
    simp [List.getD_eq_getElem?_getD, List.getElem?_replicate]
    split <;> simp
  · intro c o _ hc
    rw [Array.getD_eq_getD_getElem?, Array.getElem?_replicate] at hc
    split at hc <;> cases hc
theorem gd_iff {v : Value} {want : Bool} {A B : Prop} : gd v want A B ↔ ∃ b, v = .bool b ∧ (b = want → A) ∧ (b = !want → B) := Iff.rfl
theorem puR_iff {r : World → Result Value} {K : Value → Prop} : puR r K ↔ ∃ v, (∀ w, r w = .ok v w) ∧ K v := Iff.rfl
theorem pu_iff {s : Sem Value} {K : Value → Prop} : pu P s K ↔ ∃ v, (∀ w, s.run P w = .ok v w) ∧ K v := Iff.rfl
theorem tk_iff {T : Nat → World → Prop} {hi : Nat} {s : Sem Value} {K : Value → Prop} : tk P T hi s K ↔ ∃ v, (∀ p w, p ≤ hi → T p w → s.run P w = .ok v w) ∧ K v := Iff.rfl
theorem ph_iff {T : Nat → World → Prop} {p : Nat} {w : World} {X : Prop} : ph T p w X ↔ T p w ∧ X := Iff.rfl
theorem drw_iff {w : World} {B : (Nat → World → Prop) → World → Prop} : drw w B ↔ ∃ T : Nat → World → Prop, T 0 w.drew ∧ B T w.drew := Iff.rfl
theorem two_iff {A B : Prop} : two A B ↔ A ∧ B := Iff.rfl
attribute [irreducible] gd puR pu tk ph drw two
end Go.Proofs.Ytchmcjimnliodaa
end
section
set_option linter.unusedSimpArgs false
set_option linter.unusedVariables false
/- Words of memory that all of this seat's proofs use: which blocks a call may have changed; blocks known whole; rows of cells that are read; rows that are appended to. No program in sight. -/
namespace Go.Proofs.Ytchmcjimnliodaa
open Go.RowKit

/-- Of the blocks that were there only those in `S` may have changed; new ones may have come. -/
structure Only (S : Nat → Prop) (w w' : World) : Prop where
  os : w'.os = w.os
  tape : w'.tape = w.tape
  output : w'.output = w.output
  size : w.heap.size ≤ w'.heap.size
  block : ∀ k, k < w.heap.size → ¬ S k → w'.heap[k]? = w.heap[k]?

section only
variable {S S' : Nat → Prop} {w w1 w' : World}
theorem Only.refl (S : Nat → Prop) (w : World) : Only S w w := ⟨rfl, rfl, rfl, Nat.le_refl _, fun _ _ _ => rfl⟩
theorem Only.trans (h : Only S w w1) (k : Only S' w1 w') (hs : ∀ i, i < w.heap.size → S' i → S i) : Only S w w' :=
  ⟨k.os.trans h.os, k.tape.trans h.tape, k.output.trans h.output, Nat.le_trans h.size k.size,
    fun i hi hn => (k.block i (Nat.lt_of_lt_of_le hi h.size) (fun hx => hn (hs i hi hx))).trans (h.block i hi hn)⟩
theorem Only.mono (h : Only S w w') (hs : ∀ i, i < w.heap.size → S i → S' i) : Only S' w w' :=
  ⟨h.os, h.tape, h.output, h.size, fun i hi hn => h.block i hi (fun hx => hn (hs i hi hx))⟩
theorem Only.alloc (h : Only S w w') (o : Obj) : Only S w (w'.alloc o) :=
  ⟨h.os, h.tape, h.output, Nat.le_trans h.size (by simp), fun i hi hn => (Below.heap_alloc w' o i (Nat.lt_of_lt_of_le hi h.size)).trans (h.block i hi hn)⟩
theorem Only.drew (h : Only S w w') : Only S w w'.drew := ⟨h.os, h.tape, h.output, h.size, h.block⟩
theorem Only.drewN (h : Only S w w') (n : Nat) : Only S w (w'.drewN n) := ⟨h.os, h.tape, h.output, h.size, h.block⟩
theorem Only.setCell (h : Only S w w') {a : Addr} (ha : a.block < w.heap.size → S a.block) (v : Value) : Only S w (w'.setCell a v) :=
  ⟨h.os, h.tape, h.output, by simpa [World.setCell] using h.size, fun i hi hn => (Below.heap_setCell w' a v i (fun e => by subst e; exact hn (ha hi))).trans (h.block i hi hn)⟩
theorem Only.of_grownBy {row : Option Nat} (h : w.grownBy w' row) : Only (fun k => row = some k) w w' :=
  ⟨h.os, h.tape, h.output, h.size, fun k hk hn => h.block k hk (fun e => hn e.symm)⟩
theorem Only.of_below (h : Below w.heap.size w w') : Only S w w' := ⟨h.os, h.tape, h.output, h.size, fun k hk _ => h.block k hk⟩
theorem Only.below (h : Only S w w') {B : Nat} (hB : B ≤ w.heap.size) (hs : ∀ k, k < B → ¬ S k) : Below B w w' :=
  ⟨h.os, h.tape, h.output, h.size, fun k hk => h.block k (Nat.lt_of_lt_of_le hk hB) (hs k hk)⟩
theorem Only.cell (h : Only S w w') {a : Addr} {v : Value} (hc : w.cell? a = some v) (hn : ¬ S a.block) : w'.cell? a = some v :=
  (World.cell?_of_block (h.block a.block (World.block_lt_of_cell? w a hc) hn)).trans hc
end only

/-- The walk stands still here. -/
def Stop (p : Prop) : Prop := p
theorem Stop.in {p : Prop} (h : Stop p) : p := h
theorem Stop.out {p : Prop} (h : p) : Stop p := h

/-- Nothing that was there has changed. -/
abbrev Pure (w w' : World) : Prop := Only (fun _ => False) w w'

/-! ### Blocks known whole -/
/-- Block `B` is the row `cs` of elements of type `T`, none of them frozen. -/
def Blk (w : World) (B : Nat) (cs : Array Value) (T : TypeId) : Prop := w.heap[B]? = some (.cells cs T (0, 0))
section blk
variable {w w' : World} {B : Nat} {cs : Array Value} {T : TypeId}
theorem Blk.lt (h : Blk w B cs T) : B < w.heap.size := (Array.getElem?_eq_some_iff.1 h).1
theorem Blk.cell (h : Blk w B cs T) {i : Nat} {v : Value} (hv : cs[i]? = some v) : w.cell? ⟨B, i, none⟩ = some v := by
  rw [cell_of_row w B i cs T (0, 0) h]; exact hv
theorem Blk.frozen (h : Blk w B cs T) (i : Nat) : w.frozen? ⟨B, i, none⟩ = false := by
  simp only [World.frozen?, show w.heap[B]? = some (.cells cs T (0, 0)) from h]; simp
theorem Blk.set (h : Blk w B cs T) (i : Nat) (v : Value) : Blk (w.setCell ⟨B, i, none⟩ v) B (cs.setIfInBounds i v) T := by
  have h' : w.heap[B]? = some (.cells cs T (0, 0)) := h
  show (w.heap.modify B _)[B]? = _
  rw [Array.getElem?_modify, if_pos rfl, h']; rfl
theorem Blk.set_ne (h : Blk w B cs T) {a : Addr} (hn : B ≠ a.block) (v : Value) : Blk (w.setCell a v) B cs T :=
  (Below.heap_setCell w a v B hn).trans h
theorem Blk.alloc (h : Blk w B cs T) (o : Obj) : Blk (w.alloc o) B cs T := (Below.heap_alloc w o B h.lt).trans h
theorem Blk.new (w : World) (cs : Array Value) (T : TypeId) : Blk (w.alloc (.cells cs T)) w.heap.size cs T := heap_alloc_new w _
theorem Blk.drew (h : Blk w B cs T) : Blk w.drew B cs T := h
theorem Blk.only {S : Nat → Prop} (h : Blk w B cs T) (ho : Only S w w') (hn : ¬ S B) : Blk w' B cs T := (ho.block B h.lt hn).trans h
theorem Blk.inj {cs' : Array Value} {T' : TypeId} (h : Blk w B cs T) (h' : Blk w B cs' T') : cs = cs' ∧ T = T' := by
  have := (show w.heap[B]? = some (.cells cs T (0, 0)) from h).symm.trans h'
  injection this with this; injection this with a b c; exact ⟨a, b⟩
theorem Blk.ne {B' : Nat} {cs' : Array Value} {T' : TypeId} (h : Blk w B cs T) (h' : Blk w B' cs' T') (hT : T ≠ T') : B ≠ B' := by
  intro e; subst e; exact hT (h.inj h').2
end blk

/-! ### Cells that are read behind an address -/
def ablk (a : Option Addr) : Option Nat := a.map (·.block)
theorem ablk_add (a : Option Addr) (n : Nat) : ablk (a.map (·.add n)) = ablk a := by
  cases a with
  | none => rfl
  | some a => simp only [ablk, Option.map_some, Addr.add]; split <;> rfl
/-- The cells `xs` lie from the address `a` on. -/
def Lies (w : World) (a : Option Addr) (xs : List Value) : Prop :=
  ∀ j u, xs[j]? = some u → ∃ b o, a = some ⟨b, o, none⟩ ∧ w.cell? ⟨b, o + j, none⟩ = some u
section lies
variable {w w' : World} {a : Option Addr} {xs ys : List Value}
theorem Lies.nil (w : World) (a : Option Addr) : Lies w a [] := fun j u h => by simp at h
theorem Lies.addr (h : Lies w a xs) (hx : xs ≠ []) : ∃ b o, a = some ⟨b, o, none⟩ ∧ b < w.heap.size ∧ ∀ j u, xs[j]? = some u → w.cell? ⟨b, o + j, none⟩ = some u := by
  cases xs with
  | nil => exact absurd rfl hx
  | cons x xs =>
    obtain ⟨b, o, rfl, hc⟩ := h 0 x rfl
    refine ⟨b, o, rfl, World.block_lt_of_cell? w ⟨b, o + 0, none⟩ hc, fun j u hj => ?_⟩
    obtain ⟨b', o', e, hc'⟩ := h j u hj
    injection e with e; injection e with e1 e2 e3; subst e1; subst e2
    exact hc'
theorem Lies.of_addr {b o : Nat} (h : ∀ j u, xs[j]? = some u → w.cell? ⟨b, o + j, none⟩ = some u) : Lies w (some ⟨b, o, none⟩) xs :=
  fun j u hj => ⟨b, o, rfl, h j u hj⟩
theorem Lies.at {b o : Nat} (h : Lies w (some ⟨b, o, none⟩) xs) {j : Nat} {u : Value} (hj : xs[j]? = some u) : w.cell? ⟨b, o + j, none⟩ = some u := by
  obtain ⟨b', o', e, hc⟩ := h j u hj
  injection e with e; injection e with e1 e2 e3; subst e1; subst e2
  exact hc
theorem Lies.keep (h : Lies w a xs) (hk : ∀ b, ablk a = some b → b < w.heap.size → w'.heap[b]? = w.heap[b]?) : Lies w' a xs := by
  intro j u hj
  obtain ⟨b, o, rfl, hc⟩ := h j u hj
  exact ⟨b, o, rfl, (World.cell?_of_block (a := ⟨b, o + j, none⟩) (hk b rfl (World.block_lt_of_cell? w _ hc))).trans hc⟩
theorem Lies.only {S : Nat → Prop} (h : Lies w a xs) (ho : Only S w w') (hn : ∀ b, ablk a = some b → ¬ S b) : Lies w' a xs :=
  h.keep fun b hb hl => ho.block b hl (hn b hb)
theorem Lies.pure (h : Lies w a xs) (ho : Pure w w') : Lies w' a xs := h.only ho fun _ _ => id
theorem Lies.alloc (h : Lies w a xs) (o : Obj) : Lies (w.alloc o) a xs := h.keep fun b _ hl => Below.heap_alloc w o b hl
theorem Lies.drew (h : Lies w a xs) : Lies w.drew a xs := h.keep fun _ _ _ => rfl
theorem Lies.setCell (h : Lies w a xs) {p : Addr} (hn : ablk a ≠ some p.block) (v : Value) : Lies (w.setCell p v) a xs :=
  h.keep fun b hb _ => Below.heap_setCell w p v b (fun e => hn (by rw [hb, e]))
theorem Blk.lies {B : Nat} {cs : Array Value} {T : TypeId} (h : Blk w B cs T) : Lies w (some ⟨B, 0, none⟩) cs.toList :=
  Lies.of_addr fun j u hj => h.cell (i := 0 + j) (by simpa using hj)
theorem Blk.new' {B : Nat} (hB : B = w.heap.size) (cs : Array Value) (T : TypeId) : Blk (w.alloc (.cells cs T)) B cs T := by subst hB; exact Blk.new w cs T
/-- A beginning of what lies there. -/
theorem Lies.left (h : Lies w a (xs ++ ys)) : Lies w a xs := fun j u hj => h j u (by
  rw [List.getElem?_append_left (by exact (List.getElem?_eq_some_iff.1 hj).1)]; exact hj)
theorem Lies.take (h : Lies w a xs) (n : Nat) : Lies w a (xs.take n) := fun j u hj => h j u (by
  rw [List.getElem?_take] at hj; split at hj <;> simp_all)
/-- The rest of what lies there, from the address behind. -/
theorem Lies.drop (h : Lies w a xs) (n : Nat) : Lies w (a.map (·.add n)) (xs.drop n) := by
  intro j u hj
  rw [List.getElem?_drop] at hj
  obtain ⟨b, o, rfl, hc⟩ := h (n + j) u hj
  refine ⟨b, o + n, ?_, by rw [Nat.add_assoc]; exact hc⟩
  simp only [Option.map_some, Addr.add]; split <;> simp_all
theorem Lies.dropAt {b o : Nat} (h : Lies w (some ⟨b, o, none⟩) xs) (n : Nat) : Lies w (some ⟨b, o + n, none⟩) (xs.drop n) := by
  intro j u hj
  rw [List.getElem?_drop] at hj
  obtain ⟨b', o', e, hc⟩ := h (n + j) u hj
  injection e with e; injection e with e1 e2; subst e1; subst e2
  exact ⟨b, o + n, rfl, by rw [Nat.add_assoc]; exact hc⟩
end lies

/-! ### A row of the call's own, that is appended to -/
/-- The slice `a, n, cap` holds the cells `xs` at the head of a block of its own, whole cells of `size` each; or it is nil. -/
def Row (w : World) (e : TypeId) (size : Nat) (a : Option Addr) (n cap : Nat) (xs : List Value) : Prop :=
  xs.length = n * size ∧ n ≤ cap ∧ cap ≤ maxLen ∧
  ((a = none ∧ n = 0 ∧ cap = 0) ∨ ∃ g cur, a = some ⟨g, 0, none⟩ ∧ w.heap[g]? = some (.cells cur e (0, 0)) ∧ cur.size = cap * size ∧ cur.toList.take (n * size) = xs)
section row
variable {w w' : World} {e : TypeId} {size : Nat} {a : Option Addr} {n cap : Nat} {xs : List Value}
theorem Row.nil (w : World) (e : TypeId) (size : Nat) : Row w e size none 0 0 [] := ⟨by simp, Nat.le_refl _, Nat.zero_le _, .inl ⟨rfl, rfl, rfl⟩⟩
theorem Row.len (h : Row w e size a n cap xs) : xs.length = n * size := h.1
theorem Row.owns (h : Row w e size a n cap xs) : w.ownsRow 0 e size (.slice a n cap) n xs := by
  obtain ⟨h1, h2, h3, h4⟩ := h
  refine ⟨h1, ?_⟩
  rcases h4 with ⟨rfl, rfl, rfl⟩ | ⟨g, cur, rfl, hg, hs, ht⟩
  · exact .inl ⟨rfl, rfl⟩
  · exact .inr ⟨g, cap, cur, rfl, Nat.zero_le _, hg, h2, h3, hs, ht⟩
theorem Row.of_owns {v : Value} (h : w.ownsRow 0 e size v n xs) : ∃ a cap, v = .slice a n cap ∧ Row w e size a n cap xs := by
  obtain ⟨h1, h2⟩ := h
  rcases h2 with ⟨rfl, rfl⟩ | ⟨g, cap, cur, rfl, _, hg, hn, hc, hs, ht⟩
  · exact ⟨none, 0, rfl, h1, Nat.le_refl _, Nat.zero_le _, .inl ⟨rfl, rfl, rfl⟩⟩
  · exact ⟨_, cap, rfl, h1, hn, hc, .inr ⟨g, cur, rfl, hg, hs, ht⟩⟩
theorem Row.lt (h : Row w e size a n cap xs) : ∀ k, ablk a = some k → k < w.heap.size := by
  intro k hk
  rcases h.2.2.2 with ⟨rfl, _⟩ | ⟨g, cur, rfl, hg, _⟩
  · simp [ablk] at hk
  · simp [ablk] at hk; subst hk; exact (Array.getElem?_eq_some_iff.1 hg).1
theorem Row.lies (h : Row w e size a n cap xs) : Lies w a xs := by
  intro j u hj
  rcases h.2.2.2 with ⟨rfl, rfl, _⟩ | ⟨g, cur, rfl, hg, hs, ht⟩
  · have := h.1; simp at this; subst this; simp at hj
  · refine ⟨g, 0, rfl, ?_⟩
    rw [cell_of_row w g (0 + j) cur e (0, 0) hg, Nat.zero_add]
    rw [← ht, List.getElem?_take] at hj
    split at hj
    · simpa using hj
    · cases hj
theorem Row.keep (h : Row w e size a n cap xs) (hk : ∀ b, ablk a = some b → b < w.heap.size → w'.heap[b]? = w.heap[b]?) : Row w' e size a n cap xs := by
  have hl := h.lt
  obtain ⟨h1, h2, h3, h4⟩ := h
  refine ⟨h1, h2, h3, ?_⟩
  rcases h4 with h4 | ⟨g, cur, rfl, hg, hr⟩
  · exact .inl h4
  · exact .inr ⟨g, cur, rfl, (hk g rfl (hl g rfl)).trans hg, hr⟩
theorem Row.only {S : Nat → Prop} (h : Row w e size a n cap xs) (ho : Only S w w') (hn : ∀ b, ablk a = some b → ¬ S b) : Row w' e size a n cap xs :=
  h.keep fun b hb hl => ho.block b hl (hn b hb)
theorem Row.alloc (h : Row w e size a n cap xs) (o : Obj) : Row (w.alloc o) e size a n cap xs := h.keep fun b _ hl => Below.heap_alloc w o b hl
theorem Row.drew (h : Row w e size a n cap xs) : Row w.drew e size a n cap xs := h.keep fun _ _ _ => rfl
theorem Row.setCell (h : Row w e size a n cap xs) {p : Addr} (hn : ablk a ≠ some p.block) (v : Value) : Row (w.setCell p v) e size a n cap xs :=
  h.keep fun b hb _ => Below.heap_setCell w p v b (fun e => hn (by rw [hb, e]))
/-- A row is no block of another type. -/
theorem Row.ne_blk {B : Nat} {cs : Array Value} {T : TypeId} (h : Row w e size a n cap xs) (hB : Blk w B cs T) (hT : T ≠ e) : ablk a ≠ some B := by
  rcases h.2.2.2 with ⟨rfl, _⟩ | ⟨g, cur, rfl, hg, _⟩
  · simp [ablk]
  · intro hb
    simp [ablk] at hb; subst hb
    have h2 := (show w.heap[g]? = some (.cells cs T (0, 0)) from hB)
    rw [hg] at h2; injection h2 with h2; injection h2 with _ h2; exact hT h2.symm
/-- A block just made is a row. -/
theorem Row.of_blk {B : Nat} {cs : Array Value} (hB : Blk w B cs e) (hs : cs.size = n * size) (hn : n ≤ maxLen) : Row w e size (some ⟨B, 0, none⟩) n n cs.toList :=
  ⟨by simp [hs], Nat.le_refl _, hn, .inr ⟨B, cs, rfl, hB, hs, by rw [List.take_of_length_le (by simp [hs])]⟩⟩
end row

/-- What is appended: cells that lie somewhere. -/
theorem src_lies {P : Program} {w : World} {size : Nat} {tx e' : TypeId} (hk : P.underlying tx = some (.slice e')) {a : Option Addr} {n c : Nat} {xs : List Value} (hs : 0 < size)
    (hl : xs.length = n * size) (h : Lies w a xs) (h1 : ∀ u ∈ xs, u.oneCell' = true) : Src P size tx (.slice a n c) n xs w := by
  have add_eq : ∀ (b o j : Nat), (⟨b, o, none⟩ : Addr).add j = ⟨b, o + j, none⟩ := by
    intro b o j; unfold Addr.add; split <;> simp_all
  by_cases hx : xs = []
  · subst hx
    have hn : n = 0 := by
      rcases Nat.eq_zero_or_pos n with h0 | h0
      · exact h0
      · have := Nat.mul_pos h0 hs; simp at hl; omega
    subst hn
    cases a with
    | none => exact Src.ofNil w hk c
    | some ad => exact Src.ofSlice w hk ad 0 c [] (by simp) (by simp) (by simp)
  · obtain ⟨b, o, rfl, _, hc⟩ := h.addr hx
    exact Src.ofSlice w hk ⟨b, o, none⟩ n c xs hl (fun j u hj => by rw [add_eq]; exact hc j u hj) h1

section append
variable {P : Program} (w : World)
/-- append onto a row of the call's own: where the new one lies, and what it holds. -/
theorem run_append_row (t tx ty e : TypeId) (i : TypeInfo) (z : Value) (size bytes : Nat) (ht : P.underlying t = some (.slice e)) (hi : P.info? e = some i) (hz : i.zero = some z)
    (hsize : i.size = size) (hby : i.bytes = bytes) (hzs : z.cells.size = size) (hsz : 0 < size)
    (a : Option Addr) (n cap : Nat) (xs : List Value) (hrow : Row w e size a n cap xs)
    (x : Value) (m : Nat) (news : List Value) (hs : Src P size tx x m news w) (h63 : n + m ≤ maxLen) (hbytes : (n + m) * bytes ≤ 140737488355328) :
    ∃ a' cap' w', (Builtin.append_ #[t, tx] ty #[.slice a n cap, x]).run P w = .ok (.slice a' (n + m) cap') w' ∧ Row w' e size a' (n + m) cap' (xs ++ news) ∧
      Only (fun k => ablk a = some k) w w' ∧ (ablk a' = ablk a ∨ ablk a' = some w.heap.size) := by
  subst hsize
  subst hby
  have hsmall : n + m ≤ 9223372036854775807 := by simp only [maxLen] at h63; omega
  have hlen : (xs ++ news).length = (n + m) * i.size := by rw [List.length_append, hrow.1, hs.newsLen, Nat.add_mul]
  by_cases hroom : n + m ≤ cap
  · rcases hrow.2.2.2 with ⟨rfl, rfl, rfl⟩ | ⟨g, cur, rfl, hg, hcs, htake⟩
    · have hm : m = 0 := by omega
      subst hm
      have hnews : news = [] := List.eq_nil_of_length_eq_zero (by simpa using hs.newsLen)
      have hx : xs = [] := List.eq_nil_of_length_eq_zero (by simpa using hrow.1)
      subst hnews; subst hx
      refine ⟨none, 0, w, ?_, Row.nil _ _ _, Only.refl _ _, .inl rfl⟩
      rcases hs.kind with ⟨e', hk⟩ | hk <;>
        simp [Builtin.append_, run_underlying ht, run_underlying hk, sizeOf, typeInfo, hi, hs.len, hs.cells]
    · have hcap : (n + m) * i.size ≤ cap * i.size := Nat.mul_le_mul_right _ hroom
      have hfit : n * i.size + news.length ≤ cur.size := by rw [hs.newsLen, hcs, ← Nat.add_mul]; exact hcap
      have hr := run_storeCells_at P g (n * i.size) e news 0 cur w hg (by simpa using hfit) hs.one
      simp only [Nat.add_zero] at hr
      refine ⟨some ⟨g, 0, none⟩, cap, w.setRow g (cur.toList.take (n * i.size) ++ news ++ cur.toList.drop (n * i.size + news.length)).toArray, ?_,
        ⟨hlen, hroom, hrow.2.2.1, .inr ⟨g, _, rfl, setRow_heap w g cur _ e _ hg, ?_, ?_⟩⟩, ⟨rfl, rfl, rfl, by simp [World.setRow], fun k _ hk => setRow_other w g k _ (fun e => hk (by simp [ablk, e]))⟩, .inl rfl⟩
      · rcases hs.kind with ⟨e', hk⟩ | hk <;>
          simp [Builtin.append_, run_underlying ht, run_underlying hk, sizeOf, typeInfo, hi, hs.len, hroom, hs.cells, Addr.add_lit, hr]
      · simp only [List.size_toArray, List.length_append, List.length_take, List.length_drop, Array.length_toList]
        omega
      · rw [htake, ← hlen]
        exact List.take_left
  · have hold : (Builtin.firstCells i.size n (.slice a n cap)).run P w.drew = .ok xs.toArray w.drew := by
      rcases hrow.2.2.2 with ⟨rfl, rfl, rfl⟩ | ⟨g, cur, rfl, hg, hcs, htake⟩
      · have hx : xs = [] := List.eq_nil_of_length_eq_zero (by simpa using hrow.1)
        subst hx
        exact run_firstCells_none w.drew i.size 0 0 0
      · exact run_firstCells_some w.drew i.size n ⟨g, 0, none⟩ n cap xs hrow.1 (fun j u hj => by
          have := hrow.lies.at hj
          rw [show (⟨g, 0, none⟩ : Addr).add j = ⟨g, 0 + j, none⟩ from by unfold Addr.add; split <;> simp_all]
          simpa using this)
    have hr := run_append_grow_src (P := P) w t tx ty e i z ht hi hz a n cap xs hold x m news hs (by omega) (by omega) (growslice_fits (by omega) hbytes)
    have hge := grownCap_ge w (n + m) cap e
    refine ⟨_, _, _, hr, ⟨hlen, hge, grownCap_le_maxLen w (n + m) cap e h63, .inr ⟨w.heap.size, _, rfl, heap_alloc_new w.drew _, ?_, ?_⟩⟩,
      ⟨rfl, rfl, rfl, by simp, fun k hk _ => Below.heap_alloc w.drew _ k hk⟩, .inr rfl⟩
    · simp only [Array.size_append, List.size_toArray, size_zeroCells, hzs, hlen, ← Nat.add_mul]
      congr 1
      omega
    · simp only [Array.toList_append]
      rw [← hlen]
      exact List.take_left

/-- At the walk's operation. -/
theorem wpList_append_row {ops : Array Oper} {rest : List Oper} {o : Oper} {ac : Act} {Q : Exit → Act → World → Prop} (hgd : o.guard = none) (s x : Operand) (t tx : TypeId)
    (ho : o.op = .call { callee := .builtin .append, args := #[s, x], argTypes := #[t, tx] })
    (e : TypeId) (i : TypeInfo) (z : Value) (size bytes : Nat) (ht : P.underlying t = some (.slice e)) (hi : P.info? e = some i) (hz : i.zero = some z)
    (hsize : i.size = size) (hby : i.bytes = bytes) (hzs : z.cells.size = size) (hsz : 0 < size)
    (a : Option Addr) (n cap : Nat) (xs : List Value) (hv : ac.eval s = .slice a n cap) (hrow : Row w e size a n cap xs)
    (xv : Value) (m : Nat) (news : List Value) (hx : ac.eval x = xv) (hs : Src P size tx xv m news w) (h63 : n + m ≤ maxLen) (hbytes : (n + m) * bytes ≤ 140737488355328)
    (h : ∀ a' cap' w', Row w' e size a' (n + m) cap' (xs ++ news) → Only (fun k => ablk a = some k) w w' → (ablk a' = ablk a ∨ ablk a' = some w.heap.size) →
      wpList P ops Q rest (ac.put o.dst (.slice a' (n + m) cap')) w') : wpList P ops Q (o :: rest) ac w :=
  wpList_plain hgd fun K hK => by
    obtain ⟨a', cap', w', hr, h2, h3, h4⟩ := run_append_row (P := P) w t tx o.type e i z size bytes ht hi hz hsize hby hzs hsz a n cap xs hrow xv m news hs h63 hbytes
    unfold Oper.wp execOp
    simp only [ho, resolve, invoke, builtin, Sem.run_bind, Sem.run_pure, Result.andThen_ok, List.map_toArray, List.map_cons, List.map_nil, hv, hx, hr]
    exact hK _ _ (h a' cap' w' h2 h3 h4)
end append

/-- What the program's tables say of a slice type and its elements. -/
def ElemT (P : Program) (t e : TypeId) (size bytes : Nat) : Prop :=
  P.underlying t = some (.slice e) ∧ 0 < size ∧ ∃ i z, P.info? e = some i ∧ i.zero = some z ∧ i.size = size ∧ i.bytes = bytes ∧ z.cells.size = size
theorem ElemT.mk {P : Program} {t e : TypeId} {size bytes : Nat} {z : Value} (ht : P.underlying t = some (.slice e)) (h : (P.info? e).map (fun i => (i.zero, i.size, i.bytes)) = some (some z, size, bytes))
    (hz : z.cells.size = size) (h0 : 0 < size) : ElemT P t e size bytes := by
  obtain ⟨i, hi, h1, h2, h3⟩ := info_parts h
  exact ⟨ht, h0, i, z, hi, h1, h2, h3, hz⟩
section append2
variable {P : Program} (w : World)
/-- append of cells that lie somewhere, onto a row of the call's own. -/
theorem wpList_app {ops : Array Oper} {rest : List Oper} {o : Oper} {ac : Act} {Q : Exit → Act → World → Prop} (hgd : o.guard = none) (s x : Operand) {t e : TypeId} {size bytes : Nat}
    (ho : o.op = .call { callee := .builtin .append, args := #[s, x], argTypes := #[t, t] }) (he : ElemT P t e size bytes)
    (a : Option Addr) (n cap : Nat) (xs : List Value) (hv : ac.eval s = .slice a n cap) (hrow : Row w e size a n cap xs)
    (b : Option Addr) (m c : Nat) (ys : List Value) (hx : ac.eval x = .slice b m c) (hl : Lies w b ys) (hm : ys.length = m * size) (h1 : ∀ u ∈ ys, u.oneCell' = true)
    (h63 : n + m ≤ maxLen) (hbytes : (n + m) * bytes ≤ 140737488355328)
    (h : ∀ a' cap' w', Row w' e size a' (n + m) cap' (xs ++ ys) → Only (fun k => ablk a = some k) w w' → (ablk a' = ablk a ∨ ablk a' = some w.heap.size) →
      wpList P ops Q rest (ac.put o.dst (.slice a' (n + m) cap')) w') : wpList P ops Q (o :: rest) ac w := by
  obtain ⟨ht, h0, i, z, hi, hz, hsize, hby, hzs⟩ := he
  exact wpList_append_row w hgd s x t t ho e i z size bytes ht hi hz hsize hby hzs h0 a n cap xs hv hrow _ m ys hx (src_lies ht h0 hm hl h1) h63 hbytes h
end append2

/-! ### Bytes -/
/-- Bytes as cells. -/
def ub (l : List UInt8) : List Value := l.map fun b => Value.int .u8 b.toNat
theorem ub_length (l : List UInt8) : (ub l).length = l.length := by simp [ub]
theorem ub_append (l k : List UInt8) : ub (l ++ k) = ub l ++ ub k := by simp [ub]
theorem ub_one (l : List UInt8) : ∀ u ∈ ub l, u.oneCell' = true := by
  intro u hu; obtain ⟨_, _, rfl⟩ := List.mem_map.1 hu; rfl
theorem ub_at {l : List UInt8} {j : Nat} (h : j < l.length) : (ub l)[j]? = some (.int .u8 (l[j]).toNat) := by simp [ub, h]
theorem ub_take (l : List UInt8) (n : Nat) : ub (l.take n) = (ub l).take n := by simp [ub, List.map_take]
theorem ub_drop (l : List UInt8) (n : Nat) : ub (l.drop n) = (ub l).drop n := by simp [ub, List.map_drop]
theorem ub_inj {l k : List UInt8} (h : ub l = ub k) : l = k := by
  induction l generalizing k with
  | nil => cases k with
    | nil => rfl
    | cons _ _ => simp [ub] at h
  | cons x l ih => cases k with
    | nil => simp [ub] at h
    | cons y k =>
      simp only [ub, List.map_cons, List.cons.injEq, Value.int.injEq, true_and] at h
      obtain ⟨h1, h2⟩ := h
      rw [ih (show ub l = ub k from h2)]
      congr 1
      exact UInt8.toNat_inj.1 (by omega)
/-- A new row of these cells has been made, and given back; nothing else has changed. -/
structure Made (w w' : World) (e : TypeId) (size n : Nat) (xs : List Value) (isnil : Prop) (r : Ending) : Prop where
  ex : ∃ a cap, r = .returned (.slice a n cap) ∧ Row w' e size a n cap xs ∧ (a = none ↔ isnil) ∧ ∀ k, ablk a = some k → w.heap.size ≤ k
  only : Pure w w'
section conv
variable {P : Program} (w : World)
/-- 'string(b)'. -/
theorem run_conv_string (src dst e : TypeId) (hs : P.underlying src = some (.slice e)) (he : P.underlying e = some (.int .u8)) (hd : P.underlying dst = some .string)
    (a : Option Addr) (n cap : Nat) (bs : List UInt8) (hn : bs.length = n) (hl : Lies w a (ub bs)) : (convert src dst (.slice a n cap)).run P w = .ok (.string ⟨⟨bs⟩⟩) w := by
  rw [run_convert_bytes_string w src dst e a n cap hs he hd]
  have fold : ∀ (l : List UInt8) (s : ByteArray), (l.map fun b => (b.toNat : Int)).foldl (fun r n => r.push (UInt8.ofNat n.toNat)) s = ⟨⟨s.data.toList ++ l⟩⟩ := by
    intro l
    induction l with
    | nil => intro s; simp
    | cons x l ih =>
      intro s
      simp only [List.map_cons, List.foldl_cons]
      rw [ih]
      simp
  cases a with
  | none =>
    have : bs = [] := by
      cases bs with
      | nil => rfl
      | cons x bs => obtain ⟨b, o, h, _⟩ := hl 0 _ rfl; cases h
    subst this
    rfl
  | some ad =>
    have hc := run_firstCells_some (P := P) w 1 n ad n cap (ub bs) (by rw [ub_length]; omega) (fun j u hj => by
      obtain ⟨b, o, e, hc⟩ := hl j u hj
      injection e with e; subst e
      rw [show (⟨b, o, none⟩ : Addr).add j = ⟨b, o + j, none⟩ from by unfold Addr.add; split <;> simp_all]
      exact hc)
    have hc' : (loadCells ad n).run P w = .ok ((bs.map fun b => (b.toNat : Int)).map (Value.int .u8)).toArray w := by
      have e : (bs.map fun b => (b.toNat : Int)).map (Value.int .u8) = ub bs := by simp [ub]
      rw [e]
      simpa [Builtin.firstCells] using hc
    rw [run_bytesToString w ad n cap _ hc', fold]
    simp
/-- '[]byte(s)': the world behind it. -/
theorem bytesWorld_only (e : TypeId) (s : ByteArray) : Pure w (Lib.bytesWorld w e s) :=
  ⟨by simp [Lib.bytesWorld, World.freeze, World.alloc, World.drew, -World.alloc_eq, -World.drew_eq], by simp [Lib.bytesWorld, World.freeze, World.alloc, World.drew, -World.alloc_eq, -World.drew_eq],
    by simp [Lib.bytesWorld, World.freeze, World.alloc, World.drew, -World.alloc_eq, -World.drew_eq], by rw [Lib.bytesWorld_size]; omega, fun k hk _ => Lib.bytesWorld_at_old w e s k hk⟩
theorem bytesWorld_lies (e : TypeId) (s : ByteArray) : Lies (Lib.bytesWorld w e s) (some ⟨w.heap.size, 0, none⟩) (ub s.data.toList) := by
  refine Lies.of_addr fun j u hj => ?_
  have hlt : j < s.data.toList.length := by
    have := (List.getElem?_eq_some_iff.1 hj).1; rwa [ub_length] at this
  rw [ub_at hlt] at hj
  injection hj with hj
  rw [Nat.zero_add, Lib.bytesWorld_cell w e s j (by simpa using hlt), ← hj]
  have hlt' : j < s.data.size := by simpa using hlt
  have h2 := Array.getElem?_eq_getElem hlt'
  simp only [List.getD_eq_getElem?_getD, Array.getElem?_toList, h2, Option.getD_some, Array.getElem_toList]
end conv

section append3
variable {P : Program} (w : World)
/-- append of bytes onto a row of bytes. -/
theorem wpList_app_bytes {ops : Array Oper} {rest : List Oper} {o : Oper} {ac : Act} {Q : Exit → Act → World → Prop} (hgd : o.guard = none) (s x : Operand) {t e : TypeId}
    (ho : o.op = .call { callee := .builtin .append, args := #[s, x], argTypes := #[t, t] }) (he : ElemT P t e 1 1)
    (a : Option Addr) (n cap : Nat) (xs : List UInt8) (hv : ac.eval s = .slice a n cap) (hrow : Row w e 1 a n cap (ub xs))
    (b : Option Addr) (m c : Nat) (ys : List UInt8) (hx : ac.eval x = .slice b m c) (hl : Lies w b (ub ys)) (hm : ys.length = m) (hsz : n + m ≤ 140737488355328)
    (h : ∀ a' cap' w', Row w' e 1 a' (n + m) cap' (ub (xs ++ ys)) → Only (fun k => ablk a = some k) w w' → (ablk a' = ablk a ∨ ablk a' = some w.heap.size) →
      wpList P ops Q rest (ac.put o.dst (.slice a' (n + m) cap')) w') : wpList P ops Q (o :: rest) ac w :=
  wpList_app w hgd s x ho he a n cap (ub xs) hv hrow b m c (ub ys) hx hl (by rw [ub_length]; omega) (ub_one ys) (by simp only [maxLen]; omega) (by omega)
    (fun a' cap' w' h1 h2 h3 => h a' cap' w' (by rw [ub_append]; exact h1) h2 h3)
end append3
end Go.Proofs.Ytchmcjimnliodaa
end
section
set_option linter.unusedSimpArgs false
set_option linter.unusedVariables false
/- A range over an iterator that hands out what lies in memory: the iterator's word, and the law of the statement. No program in sight. -/
namespace Go.Proofs.Ytchmcjimnliodaa
open Go.RowKit

/-- The blocks in `T` lie as they lay. -/
structure KeepT (T : Nat → Prop) (W W' : World) : Prop where
  size : W.heap.size ≤ W'.heap.size
  same : ∀ k, T k → W'.heap[k]? = W.heap[k]?
theorem KeepT.refl (T : Nat → Prop) (W : World) : KeepT T W W := ⟨Nat.le_refl _, fun _ _ => rfl⟩
theorem KeepT.trans {T : Nat → Prop} {A B C : World} (h : KeepT T A B) (k : KeepT T B C) : KeepT T A C := ⟨Nat.le_trans h.size k.size, fun i hi => (k.same i hi).trans (h.same i hi)⟩
theorem KeepT.of_only {S T : Nat → Prop} {A B : World} (h : Only S A B) (hT : ∀ k, T k → k < A.heap.size ∧ ¬ S k) : KeepT T A B := ⟨h.size, fun k hk => h.block k (hT k hk).1 (hT k hk).2⟩
theorem KeepsFrom.of_only {S : Nat → Prop} {A B : World} {n : Nat} (h : Only S A B) (hS : ∀ k o, S k → n ≤ k → A.heap[k]? = some o → o.isCells = true) : KeepsFrom n A B :=
  ⟨h.size, fun k o hk ho hc => (h.block k (Array.getElem?_eq_some_iff.1 ho).1 (fun hs => by rw [hS k o hs hk ho] at hc; cases hc)).trans ho⟩
theorem Only.grownBy {A B : World} (h : Pure A B) : A.grownBy B none := ⟨h.os, h.tape, h.output, h.size, fun k hk _ => h.block k hk id⟩
/-- What is no cells is no block known whole. -/
theorem Blk.far {A B : World} {b : Nat} {cs : Array Value} {T : TypeId} {row : Option Nat} (h : Blk A b cs T) (hg : A.grownBy B row) (hr : ∀ r, row = some r → ∃ o : Obj, A.heap[r]? = some o ∧ o.isCells = false) : Blk B b cs T :=
  (hg.block b h.lt (fun e => by obtain ⟨o, ho, hc⟩ := hr b e.symm; rw [show A.heap[b]? = _ from h] at ho; cases ho; cases hc)).trans h
theorem Lies.far {A B : World} {a : Option Addr} {xs : List Value} {row : Option Nat} (h : Lies A a xs) (hg : A.grownBy B row) (hr : ∀ r, row = some r → ∃ o : Obj, A.heap[r]? = some o ∧ o.isCells = false) : Lies B a xs := by
  intro j u hj
  obtain ⟨b, o, rfl, hc⟩ := h j u hj
  refine ⟨b, o, rfl, (World.cell?_of_block (a := ⟨b, o + j, none⟩) (hg.block b (World.block_lt_of_cell? A _ hc) ?_)).trans hc⟩
  intro e
  obtain ⟨ob, ho, hc'⟩ := hr b e.symm
  unfold World.cell? at hc
  simp only [ho] at hc
  cases ob <;> simp_all [Obj.isCells]
theorem Row.far {A B : World} {e size : Nat} {a : Option Addr} {n cap : Nat} {xs : List Value} {row : Option Nat} (h : Row A e size a n cap xs) (hg : A.grownBy B row) (hr : ∀ r, row = some r → ∃ o : Obj, A.heap[r]? = some o ∧ o.isCells = false) : Row B e size a n cap xs := by
  refine h.keep fun b hb hl => hg.block b hl ?_
  intro e
  obtain ⟨ob, ho, hc'⟩ := hr b e.symm
  rcases h.2.2.2 with ⟨rfl, _⟩ | ⟨g, cur, rfl, hgg, _⟩
  · simp [ablk] at hb
  · simp [ablk] at hb; subst hb; rw [hgg] at ho; cases ho; cases hc'
theorem Only.far {S : Nat → Prop} {W A B : World} {row : Option Nat} (h : Only S W A) (hg : A.grownBy B row) (hr : ∀ r, row = some r → W.heap.size ≤ r) : Only S W B :=
  ⟨hg.os.trans h.os, hg.tape.trans h.tape, hg.output.trans h.output, Nat.le_trans h.size hg.size,
    fun k hk hn => (hg.block k (Nat.lt_of_lt_of_le hk h.size) (fun e => by have := hr k e.symm; omega)).trans (h.block k hk hn)⟩

/-- AN ITERATOR's WORD, at the world in which it is called: it hands out `encs x`, of which `Pin` says what is known; it minds the blocks in `T`. -/
def SqAt {α : Type} (n : Nat) (P : Program) (gf : Nat) (lb : Array Value) (encs : α → Array Value) (T : Nat → Prop) (Pin : List α → α → World → Prop) (S Sp : List α → Prop) (W : World) : Prop :=
  ∀ (l : Nat) (J Jx : List α → World → Prop), AbidesFrom W.heap.size J → AbidesFrom W.heap.size Jx →
    (∀ pre x W1, J pre W1 → Pin pre x W1 → YieldAt Fence.wide (n - 1) P l (encs x) W1 fun e W' =>
      (e = .returned (.bool true) ∧ J (pre ++ [x]) W' ∧ KeepT T W1 W') ∨ (e = .returned (.bool false) ∧ Jx (pre ++ [x]) W')) →
    J [] W →
    CallsIn Fence.wide n P gf (#[.func (.yield l) #[] #[]] ++ lb) W fun e W' => (∃ v, e = .returned v) ∧ ((∃ xs, S xs ∧ J xs W') ∨ (∃ pre, Sp pre ∧ Jx pre W'))

/-- How a round may be left. -/
def sqPost {α : Type} (B : Nat) (T : Nat → Prop) (I : List α → World → Prop) (Ix : Code → List α → World → Prop) (xs : List α) (W : World) : Exit → Act → World → Prop
  | .normal, _, W' => KeepsFrom B W W' ∧ KeepT T W W' ∧ I xs W'
  | .ret, _, W' => KeepsFrom B W W' ∧ Ix .ret xs W'
  | .exit id, _, W' => KeepsFrom B W W' ∧ Ix (.exit id) xs W'
  | .goto t, _, W' => KeepsFrom B W W' ∧ Ix (.goto t) xs W'
  | .panic _, _, _ => False
  | .outgrown, _, _ => False

theorem wideCall {n : Nat} {P : Program} {f : FuncId} {args : Array Value} {w : World} {R : Ending → World → Prop} (h : Calls P f args w R) :
    Fence.wide.fn f ∧ (Fence.wide.depth.isSome = true → 1 ≤ n) ∧ CallsIn Fence.wide (n - 1) P f args w R := ⟨trivial, fun hd => by simp [Fence.wide] at hd, callsIn_wide.2 h⟩
theorem roundCall {n l : Nat} {P : Program} {f : FuncId} {args : Array Value} {w : World} {R : Ending → World → Prop} (h : Calls P f args w R) :
    (Fence.wide.inRound l).fn f ∧ ((Fence.wide.inRound l).depth.isSome = true → 1 ≤ n) ∧ CallsIn (Fence.wide.inRound l) (n - 1) P f args w R := ⟨trivial, fun hd => by simp [Fence.wide] at hd, CallsIn.inRound l (callsIn_wide.2 h)⟩
variable {n : Nat} {P : Program}
/-- THE STATEMENT 'for .. := range g { .. }'. -/
theorem range_sq {α : Type} {g : Operand} {ps : Array Tmp} {assign body : Code} {Q : Exit → Act → World → Prop} {a : Act} {w : World}
    (h1 : 1 ≤ n) {gf : Nat} {lb : Array Value} (hg : a.eval g = .func (.func gf) #[] lb) (eg : ∀ args w, (callFunc gf args).run P w = .ok (.enter gf args) w)
    {encs : α → Array Value} {T : Nat → Prop} {Pin : List α → α → World → Prop} {S Sp : List α → Prop} (hT : ∀ k, T k → k < w.heap.size)
    (hseq : ∀ rec : Loop, SqAt (n - 1) P gf lb encs T Pin S Sp ((w.alloc (.deferred (some []))).alloc (.loop rec))) (hps : ∀ x, (encs x).size = ps.size)
    (I : List α → World → Prop) (Ix : Code → List α → World → Prop) (hI : OwnFrom w.heap.size I) (hIx : ∀ c, OwnFrom w.heap.size (Ix c)) (h0 : I [] w)
    (Ax : List α → α → Act → World → Prop) (hAx : ∀ pre x a', OwnFrom w.heap.size (fun (_ : Unit) W => Ax pre x a' W))
    (hassign : ∀ (l : Nat) (pre : List α) (x : α) (W : World) (K : Act → World → Prop), I pre W → Pin pre x W → (∀ a' W', Pure W W' → I pre W' → Ax pre x a' W' → K a' W') →
      assign.wpIn (Fence.wide.inRound l) (n - 1 - 1) P (Exit.then K (fun _ _ _ => False)) { tmps := (ps.zip (encs x)).foldl (fun t (p, v) => t.setIfInBounds p v) a.tmps, defers := [] } W)
    (hbody : ∀ (l : Nat) (pre : List α) (x : α) (a' : Act) (W : World), w.heap.size ≤ l → I pre W → Ax pre x a' W →
      body.wpIn (Fence.wide.inRound l) (n - 1 - 1) P (sqPost w.heap.size T I Ix (pre ++ [x]) W) a' W)
    (hdone : ∀ (D : Nat) (xs : List α) (W : World), w.heap.size ≤ D → S xs → I xs W → W.heap[D]? = some (.deferred (some [])) → Q .normal { a with defers := { target := .collected D, args := #[] } :: a.defers } W)
    (hstop : ∀ (D : Nat) (c : Code) (pre : List α) (W : World), w.heap.size ≤ D → Sp pre → Ix c pre W → W.heap[D]? = some (.deferred (some [])) → c.wpIn Fence.wide n P Q { a with defers := { target := .collected D, args := #[] } :: a.defers } W) :
    (Code.rangeFunc g ps assign body).wpIn Fence.wide n P Q a w := by
  refine wpIn_rangeFunc ?_
  intro fn _
  obtain ⟨rec, hrec⟩ : ∃ rec : LoopState → Option Code → Loop, rec = fun st pe => { state := st, pending := pe, fn, tmps := a.tmps, params := ps, assign, body, defers := w.heap.size } := ⟨_, rfl⟩
  obtain ⟨W1, hW1⟩ : ∃ W1, (w.alloc (.deferred (some []))).alloc (.loop (rec .ready none)) = W1 := ⟨_, rfl⟩
  have hL1 : W1.heap[w.heap.size + 1]? = some (.loop (rec .ready none)) := by
    rw [← hW1]; have := World.alloc_heap_new (w.alloc (.deferred (some []))) (.loop (rec .ready none)); rwa [World.size_alloc] at this
  have hK1 : W1.heap[w.heap.size]? = some (.deferred (some [])) := by
    rw [← hW1]; exact (Below.heap_alloc _ _ _ (by simp)).trans (World.alloc_heap_new w _)
  have hI1 : I [] W1 := by rw [← hW1]; exact hI.alloc _ (hI.alloc _ h0)
  have hz1 : w.heap.size + 2 = W1.heap.size := by rw [← hW1]; simp
  have hseq1 := hseq (rec .ready none)
  rw [hW1] at hseq1
  refine ⟨w.heap.size + 1, [{ target := .collected w.heap.size, args := #[] }], W1, { target := .fn (.func gf) lb, args := #[.func (.yield (w.heap.size + 1)) #[] #[]] }, W1, gf,
    #[.func (.yield (w.heap.size + 1)) #[] #[]] ++ lb, W1, ?_, ?_, fun _ _ => trivial, ?_, fun _ => h1, ?_⟩
  · rw [← hW1, hrec]; exact run_enterLoop_outer _ _ _ _ _
  · simp only [resolve, hg]
    simp [go_sem]
  · simp [invoke, go_sem, eg]
  · have hnw : ∀ {A : World} {row : Option Nat}, (∀ r, row = some r → W1.heap.size ≤ r ∧ ∃ o : Obj, A.heap[r]? = some o ∧ o.isWalk = true) → (∀ r, row = some r → w.heap.size ≤ r ∧ ∃ o : Obj, A.heap[r]? = some o ∧ o.isCells = false) :=
      fun hr r e => by obtain ⟨hB, o, ho, hw⟩ := hr r e; exact ⟨by omega, o, ho, Obj.not_cells_of_walk hw⟩
    refine (hseq1 (w.heap.size + 1)
      (fun pre W => I pre W ∧ W.heap[w.heap.size + 1]? = some (.loop (rec .ready none)) ∧ W.heap[w.heap.size]? = some (.deferred (some [])))
      (fun pre W => ∃ c, Ix c pre W ∧ W.heap[w.heap.size + 1]? = some (.loop (rec .done (some c))) ∧ W.heap[w.heap.size]? = some (.deferred (some [])))
      (fun s A B row hs hg' hr => ⟨hI s A B row hs.1 hg' (hnw hr), (grownBy_keeps hg' (fun r e => (hr r e).2) hs.2.1 rfl).trans hs.2.1, (grownBy_keeps hg' (fun r e => (hr r e).2) hs.2.2 rfl).trans hs.2.2⟩)
      (fun s A B row hs hg' hr => by
        obtain ⟨c, hc, hl, hk⟩ := hs
        exact ⟨c, hIx c s A B row hc hg' (hnw hr), (grownBy_keeps hg' (fun r e => (hr r e).2) hl rfl).trans hl, (grownBy_keeps hg' (fun r e => (hr r e).2) hk rfl).trans hk⟩)
      ?_ ⟨hI1, hL1, hK1⟩).mono ?_
    · rintro pre x Wb ⟨hi, hl, hk⟩ hpin
      have hy := run_yield (P := P) (args := encs x) hl (by rw [hrec]; exact hps x)
      rw [hrec] at hy
      refine ⟨fn, _, assign, body, hy, roundIn_of_wpIn trivial (hassign _ pre x Wb _ hi hpin ?_)⟩
      clear hy
      intro a' W hpu hi hax
      have hl' : W.heap[w.heap.size + 1]? = some (.loop (rec .ready none)) := (hpu.block _ (Array.getElem?_eq_some_iff.1 hl).1 id).trans hl
      have hk' : W.heap[w.heap.size]? = some (.deferred (some [])) := (hpu.block _ (Array.getElem?_eq_some_iff.1 hk).1 id).trans hk
      have hlt : w.heap.size + 1 < W.heap.size := (Array.getElem?_eq_some_iff.1 hl').1
      have hltb : w.heap.size + 1 < Wb.heap.size := (Array.getElem?_eq_some_iff.1 hl).1
      refine ⟨_, run_beginRound hl' (by rw [hrec]), ?_⟩
      obtain ⟨W2, hW2⟩ : ∃ W2, W2 = W.putObj (w.heap.size + 1) (.loop { rec .ready none with state := .busy }) := ⟨_, rfl⟩
      rw [← hW2]
      have hl2 : W2.heap[w.heap.size + 1]? = some (.loop { rec .ready none with state := .busy }) := by rw [hW2]; exact World.putObj_heap_same hlt
      have hk2 : W2.heap[w.heap.size]? = some (.deferred (some [])) := by rw [hW2]; exact (World.putObj_heap_other (by omega)).trans hk'
      have keep : ∀ {A : World} (o : Obj), KeepT T A (A.putObj (w.heap.size + 1) o) := fun o =>
        ⟨by simp, fun k hk => World.putObj_heap_other (by have := hT k hk; omega)⟩
      have hkb : KeepT T Wb W2 := by
        rw [hW2]
        exact (KeepT.of_only hpu (fun k hk => ⟨by have := hT k hk; omega, id⟩)).trans (keep _)
      have hi2 : I pre W2 := by rw [hW2]; exact hI.putObj _ hi (by omega) hl' rfl
      have hax2 : Ax pre x a' W2 := by rw [hW2]; exact (hAx pre x a').putObj (s := ()) _ hax (by omega) hl' rfl
      refine wpIn_mono (hbody _ pre x a' W2 (by omega) hi2 hax2) ?_
      have fin : ∀ (jump : Option Code) (W3 : World), KeepsFrom w.heap.size W2 W3 →
          (Instr.endRound (w.heap.size + 1) jump).run P W3 = .ok (.bool jump.isNone) (W3.putObj (w.heap.size + 1) (.loop (rec (if jump.isNone then .ready else .done) jump))) ∧
          W3.heap[w.heap.size + 1]? = some (.loop { rec .ready none with state := .busy }) ∧
          (W3.putObj (w.heap.size + 1) (.loop (rec (if jump.isNone then .ready else .done) jump))).heap[w.heap.size + 1]? = some (.loop (rec (if jump.isNone then .ready else .done) jump)) ∧
          (W3.putObj (w.heap.size + 1) (.loop (rec (if jump.isNone then .ready else .done) jump))).heap[w.heap.size]? = some (.deferred (some [])) := fun jump W3 hk3 => by
        have hl3 := hk3.same _ _ (by omega) hl2 rfl
        have := run_endRound (P := P) jump hl3
        rw [hrec] at this ⊢
        exact ⟨this, by rw [hrec] at hl3; exact hl3, World.putObj_heap_same (Array.getElem?_eq_some_iff.1 hl3).1, (World.putObj_heap_other (by omega)).trans (hk3.same _ _ (Nat.le_refl _) hk2 rfl)⟩
      rintro e a3 W3 hp
      cases e with
      | normal =>
        obtain ⟨hk3, hkp3, hi3⟩ := hp
        obtain ⟨hr, hl3, hl4, hk4⟩ := fin none W3 hk3
        exact ⟨_, _, hr, .inl ⟨rfl, ⟨hI.putObj _ hi3 (by omega) hl3 rfl, hl4, hk4⟩, hkb.trans (hkp3.trans (keep _))⟩⟩
      | ret =>
        obtain ⟨hk3, hi3⟩ := hp
        obtain ⟨hr, hl3, hl4, hk4⟩ := fin (some .ret) W3 hk3
        exact ⟨_, _, hr, .inr ⟨rfl, .ret, (hIx _).putObj _ hi3 (by omega) hl3 rfl, hl4, hk4⟩⟩
      | exit id =>
        obtain ⟨hk3, hi3⟩ := hp
        obtain ⟨hr, hl3, hl4, hk4⟩ := fin (some (.exit id)) W3 hk3
        exact ⟨_, _, hr, .inr ⟨rfl, .exit id, (hIx _).putObj _ hi3 (by omega) hl3 rfl, hl4, hk4⟩⟩
      | goto t =>
        obtain ⟨hk3, hi3⟩ := hp
        obtain ⟨hr, hl3, hl4, hk4⟩ := fin (some (.goto t)) W3 hk3
        exact ⟨_, _, hr, .inr ⟨rfl, .goto t, (hIx _).putObj _ hi3 (by omega) hl3 rfl, hl4, hk4⟩⟩
      | panic ch => exact hp.elim
      | outgrown => exact hp.elim
    · rintro e W2 ⟨⟨v, rfl⟩, (⟨xs, hS, hi, hl, hk⟩ | ⟨pre, hSp, c, hi, hl, hk⟩)⟩
      · exact ⟨none, _, by have := run_endLoop (P := P) hl (by rw [hrec]; simp); rw [hrec] at this; exact this, hdone _ xs _ (Nat.le_refl _) hS (hI.putObj _ hi (by omega) hl rfl) ((World.putObj_heap_other (by omega)).trans hk)⟩
      · exact ⟨some c, _, by have := run_endLoop (P := P) hl (by rw [hrec]; simp); rw [hrec] at this; exact this, hstop _ c pre _ (Nat.le_refl _) hSp ((hIx c).putObj _ hi (by omega) hl rfl) ((World.putObj_heap_other (by omega)).trans hk)⟩
end Go.Proofs.Ytchmcjimnliodaa
end
section
set_option linter.unusedSimpArgs false
set_option linter.unusedVariables false
/- A generator of verification conditions: code, loops, ranges over iterators, functions. No program in sight. -/
namespace Go.Proofs.Ytchmcjimnliodaa
open Go Go.RowKit

/-! ### Conditions on so many values and a world -/
def Car : Nat → Type
  | 0 => World → Prop
  | n + 1 => Value → Car n
def lam : (n : Nat) → (List Value → World → Prop) → Car n
  | 0, f => f []
  | n + 1, f => fun v => lam n (fun vs => f (v :: vs))
def app : (n : Nat) → Car n → List Value → World → Prop
  | 0, c, [] => c
  | 0, _, _ :: _ => fun _ => False
  | _ + 1, _, [] => fun _ => False
  | n + 1, c, v :: vs => app n (c v) vs
theorem app_lam : ∀ {n : Nat} {vs : List Value} {f : List Value → World → Prop}, vs.length = n → app n (lam n f) vs = f vs
  | 0, [], _, _ => rfl
  | 0, _ :: _, _, h => by simp at h
  | _ + 1, [], _, h => by simp at h
  | n + 1, v :: vs, f, h => by
    show app n (lam n fun vs => f (v :: vs)) vs = _
    rw [app_lam (by simpa using h)]
theorem app_len : ∀ {n : Nat} {c : Car n} {vs : List Value} {w : World}, app n c vs w → vs.length = n
  | 0, _, [], _, _ => rfl
  | 0, _, _ :: _, _, h => h.elim
  | _ + 1, _, [], _, h => h.elim
  | n + 1, c, v :: vs, w, h => by
    have := app_len (n := n) (c := c v) (vs := vs) h
    simp [this]

/-! ### What code writes -/
def wrOps (ops : List Oper) (i : Nat) : Bool := ops.any fun o => match o.dst with | some d => Nat.beq d i | none => false
def wr : Code → Nat → Bool
  | .region _ ops _, i => wrOps ops.toList i
  | .seq a b, i => wr a i || wr b i
  | .cond _ a b, i => wr a i || wr b i
  | .block _ b, i => wr b i
  | .loop b, i => wr b i
  | _, _ => false
def noRf : Code → Bool
  | .seq a b => noRf a && noRf b
  | .cond _ a b => noRf a && noRf b
  | .block _ b => noRf b
  | .loop b => noRf b
  | .rangeFunc .. => false
  | _ => true
def Env.wo (E : Env) (c : Code) (ds : List Nat) : Env := { get := fun i => bif wr c i then none else E.get i, ds := ds }
def Env.bind (E : Env) : List Nat → List Value → Env
  | s :: ss, v :: vs => (E.bind ss vs).put (some s) (.va v)
  | _, _ => E
def Env.bindP : Env → List Nat → List Value → Env
  | E, p :: ps, v :: vs => (E.put (some p) (.va v)).bindP ps vs
  | E, _, _ => E
def valsK (E : Env) : List Nat → (List Value → Prop) → Prop
  | [], k => k []
  | s :: ss, k => match E.get s with
    | some e => valsK E ss fun vs => k (e.val :: vs)
    | none => False
/-- The frame behind `c`, as it was ahead of it but for what `c` writes. -/
structure Same (c : Code) (a a' : Act) : Prop where
  tmps : ∀ i, wr c i = false → a'.tmps[i]? = a.tmps[i]?
  size : a'.tmps.size = a.tmps.size
  defs : noRf c = true → a'.defers = a.defers
theorem Env.bind_ds (E : Env) : ∀ (ss : List Nat) (vs : List Value), (E.bind ss vs).ds = E.ds
  | [], _ => rfl
  | _ :: _, [] => rfl
  | _ :: ss, _ :: vs => Env.bind_ds E ss vs
theorem bind_get (E : Env) : ∀ (ss : List Nat) (vs : List Value) (i : Nat) (e : Ent), (E.bind ss vs).get i = some e → (∃ (k : Nat) (v : Value), ss[k]? = some i ∧ vs[k]? = some v ∧ e = .va v) ∨ E.get i = some e
  | [], _, i, e, h => .inr h
  | _ :: _, [], i, e, h => .inr h
  | s :: ss, v :: vs, i, e, h => by
    simp only [Env.bind, Env.put] at h
    by_cases hi : i = s
    · subst hi
      simp only [Nat.beq_refl, cond_true, Option.some.injEq] at h
      exact .inl ⟨0, v, rfl, rfl, h.symm⟩
    · have : Nat.beq i s = false := by
        cases hb : Nat.beq i s with
        | false => rfl
        | true => exact absurd (Nat.eq_of_beq_eq_true hb) hi
      rw [this] at h
      rcases bind_get E ss vs i e h with ⟨k, v', h1, h2, h3⟩ | h
      · exact .inl ⟨k + 1, v', h1, h2, h3⟩
      · exact .inr h
theorem valsK_spec {N : Nat} {E : Env} {a : Act} (hfit : Fits N E a) : ∀ {ss : List Nat} {k : List Value → Prop}, valsK E ss k → ∃ vs, k vs ∧ vs.length = ss.length ∧ ∀ (j s : Nat) (v : Value), ss[j]? = some s → vs[j]? = some v → a.tmps[s]? = some v
  | [], k, h => ⟨[], h, rfl, fun j s v hs => by simp at hs⟩
  | s :: ss, k, h => by
    unfold valsK at h
    cases he : E.get s with
    | none => rw [he] at h; exact h.elim
    | some e =>
      rw [he] at h
      obtain ⟨vs, h1, h2, h3⟩ := valsK_spec hfit h
      refine ⟨e.val :: vs, h1, by simp [h2], fun j s' v hs hv => ?_⟩
      cases j with
      | zero => simp at hs hv; subst hs; subst hv; exact hfit.get _ _ he
      | succ j => exact h3 j s' v hs hv
theorem Fits.bind {N : Nat} {E E' : Env} {a a' : Act} {c : Code} {ss : List Nat} {vs : List Value} (hfit : Fits N E a) (hs : Same c a a') (hd : a'.defers = E'.ds.map coll)
    (hv : ∀ (j s : Nat) (v : Value), ss[j]? = some s → vs[j]? = some v → a'.tmps[s]? = some v) : Fits N ((E.wo c E'.ds).bind ss vs) a' := by
  refine ⟨fun i e hi => ?_, by rw [hs.size]; exact hfit.size, by rw [Env.bind_ds]; exact hd⟩
  rcases bind_get _ ss vs i e hi with ⟨k, v, h1, h2, rfl⟩ | h
  · exact hv k i v h1 h2
  · simp only [Env.wo] at h
    cases hw : wr c i with
    | true => rw [hw] at h; cases h
    | false => rw [hw] at h; rw [hs.tmps i hw]; exact hfit.get i e h

/-! ### Joins and loops -/
/-- What follows is told once: at a condition of one's own choice. -/
def joinK (n : Nat) (R : Car n) (B : Car n → Prop) : Prop := ∃ J : Car n, (∀ vs w, app n J vs w → app n R vs w) ∧ B J
def joinD (n : Nat) (R : List Nat → Car n) (B : (List Nat → Car n) → Prop) : Prop := ∃ J : List Nat → Car n, (∀ ds vs w, app n (J ds) vs w → app n (R ds) vs w) ∧ B J
def loopK (n : Nat) (init : List Value) (w : World) (body : Car n → Car n) : Prop :=
  ∃ (I : Car n) (μ : List Value → World → Nat), app n I init w ∧ ∀ vs w, app n I vs w → app n (body (lam n fun vs' w' => app n I vs' w' ∧ μ vs' w' < μ vs w)) vs w
def loopD (n : Nat) (ds : List Nat) (init : List Value) (w : World) (body : (List Nat → Car n) → List Nat → Car n) : Prop :=
  ∃ (I : List Nat → Car n) (μ : List Value → World → Nat), app n (I ds) init w ∧ ∀ ds vs w, app n (I ds) vs w → app n (body (fun ds' => lam n fun vs' w' => app n (I ds') vs' w' ∧ μ vs' w' < μ vs w) ds) vs w

/-! ### A range over an iterator -/
/-- Behind the assignment of a round's variables the record of the loop is turned. -/
def asn (n0 : Nat) (W W' : World) (X : World → Prop) : Prop := Pure W W' ∧ ∀ (l : Nat) (o o' : Loop), n0 ≤ l → W'.heap[l]? = some (.loop o) → X (W'.putObj l (.loop o'))
def rPost {α : Type} (B : Nat) (T : Nat → Prop) (I : List α → World → Prop) (Ix : Exit → List α → World → Prop) (xs : List α) (Wb W : World) : Exit → World → Prop
  | .normal, W' => KeepsFrom B W W' ∧ KeepT T Wb W' ∧ I xs W'
  | .ret, W' => KeepsFrom B W W' ∧ Ix .ret xs W'
  | .exit id, W' => KeepsFrom B W W' ∧ Ix (.exit id) xs W'
  | .goto t, W' => KeepsFrom B W W' ∧ Ix (.goto t) xs W'
  | _, _ => False
inductive Xt where
  | rt
  | ex (i : Nat)
def Xt.exit : Xt → Exit
  | .rt => .ret
  | .ex i => .exit i
def pickX : List (Xt × (Nat → World → Prop)) → Exit → Nat → World → Prop
  | (.rt, f) :: _, .ret, D, W => f D W
  | (.ex i, f) :: r, .exit j, D, W => bif Nat.beq i j then f D W else pickX r (.exit j) D W
  | _ :: r, e, D, W => pickX r e D W
  | [], _, _, _ => False
inductive Rng (P : Program) (g : Value) (np : Nat) (w : World) (B : (World → World → Exit → World → Prop) → Car np) (An : Nat → World → Prop) (L : List (Xt × (Nat → World → Prop))) : Prop
  | mk {α : Type} {gf : Nat} {lb : Array Value} (hg : g = .func (.func gf) #[] lb) (eg : Enters P gf) (encs : α → List Value) (T : Nat → Prop) (Pin : List α → α → World → Prop) (S Sp : List α → Prop)
      (hT : ∀ k, T k → k < w.heap.size) (hseq : ∀ rec : Loop, SqAt 0 P gf lb (fun x => (encs x).toArray) T Pin S Sp ((w.alloc (.deferred (some []))).alloc (.loop rec)))
      (hps : ∀ x, (encs x).length = np) (I : List α → World → Prop) (Ix : Exit → List α → World → Prop) (hI : OwnFrom w.heap.size I) (hIx : ∀ c, OwnFrom w.heap.size (Ix c)) (h0 : I [] w)
      (hbody : ∀ pre x W, I pre W → Pin pre x W → app np (B (rPost w.heap.size T I Ix (pre ++ [x]))) (encs x) W)
      (hdone : ∀ (D : Nat) (xs : List α) (W : World), w.heap.size ≤ D → S xs → I xs W → W.heap[D]? = some (.deferred (some [])) → An D W)
      (hstop : ∀ (D : Nat) (e : Exit) (pre : List α) (W : World), w.heap.size ≤ D → Sp pre → Ix e pre W → W.heap[D]? = some (.deferred (some [])) → pickX L e D W) : Rng P g np w B An L

/-! ### Code -/
inductive Ann where
  | leaf
  | draw (l : St)
  | seq (a b : Ann)
  | join (ss : List Nat) (a b : Ann)
  | cond (a b : Ann)
  | one (a : Ann)
  | loop (ss : List Nat) (a : Ann)
  | rng (es : List Xt) (a b : Ann)
def thenQ (K : Env → World → Prop) (Q : Exit → Env → World → Prop) : Exit → Env → World → Prop
  | .normal, E, w => K E w
  | e, E, w => Q e E w
def inB (id : Nat) (Q : Exit → Env → World → Prop) : Exit → Env → World → Prop
  | .exit i, E, w => bif Nat.beq i id then Q .normal E w else Q (.exit i) E w
  | e, E, w => Q e E w
def okS (c : Code) (ss : List Nat) : Bool := ss.all fun s => wr c s
def Env.know (E : Env) (x : Operand) (b : Bool) : Env :=
  match x with
  | .tmp t => E.put (some t) (.bo b)
  | _ => E
def vc (P : Program) (top : Bool) : Code → Ann → Env → (Exit → Env → World → Prop) → World → Prop
  | .skip, _, E, Q, w => Q .normal E w
  | .label _, _, E, Q, w => Q .normal E w
  | .exit id, _, E, Q, w => Q (.exit id) E w
  | .ret, _, E, Q, w => Q .ret E w
  | .region _ ops dr, ann, E, Q, w => bif dr then
      match ann with
      | .draw l => bif drawOk ops.toList l then drw w fun T w' => vcD P ops.toList T l 0 E w' (Q .normal) else False
      | _ => False
    else vcOps P ops.toList ops.toList E w (Q .normal)
  | .seq a b, .seq x y, E, Q, w => vc P top a x E (thenQ (vc P top b y · Q ·) Q) w
  | .seq a b, .join ss x y, E, Q, w => bif okS a ss then
      bif noRf a then
        joinK ss.length (lam ss.length fun vs w => vc P top b y ((E.wo a E.ds).bind ss vs) Q w) fun j => vc P top a x E (thenQ (fun E' w' => valsK E' ss fun vs => app ss.length j vs w') Q) w
      else
        joinD ss.length (fun ds => lam ss.length fun vs w => vc P top b y ((E.wo a ds).bind ss vs) Q w) fun j => vc P top a x E (thenQ (fun E' w' => valsK E' ss fun vs => app ss.length (j E'.ds) vs w') Q) w
      else False
  | .cond c a b, .cond x y, E, Q, w => match E.ent c with
    | some (.bo t) => bif t then vc P top a x E Q w else vc P top b y E Q w
    | some (.va v) => gd v true (vc P top a x (E.know c true) Q w) (vc P top b y (E.know c false) Q w)
    | _ => False
  | .block id c, .one x, E, Q, w => vc P top c x E (inB id Q) w
  | .loop c, .loop ss x, E, Q, w => bif okS c ss then valsK E ss fun vs =>
      bif noRf c then
        loopK ss.length vs w fun next => lam ss.length fun vs w => vc P top c x ((E.wo c E.ds).bind ss vs) (thenQ (fun E' w' => valsK E' ss fun vs' => app ss.length next vs' w') Q) w
      else
        loopD ss.length E.ds vs w fun next ds => lam ss.length fun vs w => vc P top c x ((E.wo c ds).bind ss vs) (thenQ (fun E' w' => valsK E' ss fun vs' => app ss.length (next E'.ds) vs' w') Q) w
      else False
  | .rangeFunc g ps asg body, .rng es x y, E, Q, w => bif top then
      match E.ent g with
      | some e => Rng P e.val ps.toList.length w
          (fun q => lam ps.toList.length fun vs W => vc P false asg x (({ E with ds := [] } : Env).bindP ps.toList vs) (thenQ (fun E' W' => asn w.heap.size W W' fun W2 => vc P false body y E' (fun e _ W3 => q W W2 e W3) W2) fun _ _ _ => False) W)
          (fun D W => Q .normal { E with ds := D :: E.ds } W) (es.map fun x => (x, fun D W => Q x.exit { E with ds := D :: E.ds } W))
      | none => False
    else False
  | _, _, _, _, _ => False
def codeOk (N : Nat) : Code → Bool
  | .region _ ops _ => dstsOk N ops.toList
  | .seq a b => codeOk N a && codeOk N b
  | .cond _ a b => codeOk N a && codeOk N b
  | .block _ b => codeOk N b
  | .loop b => codeOk N b
  | .rangeFunc _ ps a b => (ps.toList.all fun p => Nat.blt p N) && codeOk N a && codeOk N b
  | _ => true

/-! ### The range's law, for code that meets its conditions -/
variable {F : Fence} {n : Nat} {P : Program}
inductive Jmp : Code → Exit → Prop
  | ret : Jmp .ret .ret
  | exit (i : Nat) : Jmp (.exit i) (.exit i)
  | goto (t : Nat) : Jmp (.goto t) (.goto t)
theorem range_vc {g : Operand} {ps : Array Tmp} {assign body : Code} {Q : Exit → Act → World → Prop} {a : Act} {w : World} {gv : Value} (hgv : a.eval g = gv)
    {B : (World → World → Exit → World → Prop) → Car ps.toList.length} {An : Nat → World → Prop} {L : List (Xt × (Nat → World → Prop))} (h : Rng P gv ps.toList.length w B An L)
    (hrun : ∀ (l : Nat) (vs : List Value) (W : World) (q : World → World → Exit → World → Prop), vs.length = ps.toList.length → app ps.toList.length (B q) vs W →
      assign.wpIn (Fence.wide.inRound l) 0 P (Exit.then (fun a' W' => asn w.heap.size W W' fun W2 => body.wpIn (Fence.wide.inRound l) 0 P (fun e _ W3 => q W W2 e W3) a' W2) (fun _ _ _ => False))
        { tmps := (ps.zip vs.toArray).foldl (fun t (p, v) => t.setIfInBounds p v) a.tmps, defers := [] } W)
    (hAn : ∀ (D : Nat) (W : World), An D W → Q .normal { a with defers := coll D :: a.defers } W) (hA : ∀ (D : Nat) (e : Exit) (W : World), pickX L e D W → Q e { a with defers := coll D :: a.defers } W) :
    (Code.rangeFunc g ps assign body).wpIn Fence.wide 2 P Q a w := by
  obtain @⟨α, gf, lb, hg, eg, encs, T, Pin, S, Sp, hT, hseq, hps, I, Ix, hI, hIx, h0, hbody, hdone, hstop⟩ := h
  rw [hg] at hgv
  refine wpIn_rangeFunc ?_
  intro fn _
  obtain ⟨rec, hrec⟩ : ∃ rec : LoopState → Option Code → Loop, rec = fun st pe => { state := st, pending := pe, fn, tmps := a.tmps, params := ps, assign, body, defers := w.heap.size } := ⟨_, rfl⟩
  obtain ⟨W1, hW1⟩ : ∃ W1, (w.alloc (.deferred (some []))).alloc (.loop (rec .ready none)) = W1 := ⟨_, rfl⟩
  have hL1 : W1.heap[w.heap.size + 1]? = some (.loop (rec .ready none)) := by
    rw [← hW1]; have := World.alloc_heap_new (w.alloc (.deferred (some []))) (.loop (rec .ready none)); rwa [World.size_alloc] at this
  have hK1 : W1.heap[w.heap.size]? = some (.deferred (some [])) := by
    rw [← hW1]; exact (Below.heap_alloc _ _ _ (by simp)).trans (World.alloc_heap_new w _)
  have hI1 : I [] W1 := by rw [← hW1]; exact hI.alloc _ (hI.alloc _ h0)
  have hz1 : w.heap.size + 2 = W1.heap.size := by rw [← hW1]; simp
  have hseq1 := hseq (rec .ready none)
  rw [hW1] at hseq1
  refine ⟨w.heap.size + 1, [{ target := .collected w.heap.size, args := #[] }], W1, { target := .fn (.func gf) lb, args := #[.func (.yield (w.heap.size + 1)) #[] #[]] }, W1, gf,
    #[.func (.yield (w.heap.size + 1)) #[] #[]] ++ lb, W1, ?_, ?_, fun _ _ => trivial, ?_, fun _ => by omega, ?_⟩
  · rw [← hW1, hrec]; exact run_enterLoop_outer _ _ _ _ _
  · simp only [resolve, hgv]
    simp [go_sem]
  · have := eg (#[.func (.yield (w.heap.size + 1)) #[] #[]] ++ lb) W1
    simpa [invoke] using this
  · have hnw : ∀ {A : World} {row : Option Nat}, (∀ r, row = some r → W1.heap.size ≤ r ∧ ∃ o : Obj, A.heap[r]? = some o ∧ o.isWalk = true) → (∀ r, row = some r → w.heap.size ≤ r ∧ ∃ o : Obj, A.heap[r]? = some o ∧ o.isCells = false) :=
      fun hr r e => by obtain ⟨hB, o, ho, hw⟩ := hr r e; exact ⟨by omega, o, ho, Obj.not_cells_of_walk hw⟩
    have hcall : CallsIn Fence.wide (2 - 1) P gf (#[.func (.yield (w.heap.size + 1)) #[] #[]] ++ lb) W1 _ := callsIn_wide.2 (callsIn_wide.1 (hseq1 (w.heap.size + 1)
      (fun pre W => I pre W ∧ W.heap[w.heap.size + 1]? = some (.loop (rec .ready none)) ∧ W.heap[w.heap.size]? = some (.deferred (some [])))
      (fun pre W => ∃ c e, Jmp c e ∧ Ix e pre W ∧ W.heap[w.heap.size + 1]? = some (.loop (rec .done (some c))) ∧ W.heap[w.heap.size]? = some (.deferred (some [])))
      (fun s A B row hs hg' hr => ⟨hI s A B row hs.1 hg' (hnw hr), (grownBy_keeps hg' (fun r e => (hr r e).2) hs.2.1 rfl).trans hs.2.1, (grownBy_keeps hg' (fun r e => (hr r e).2) hs.2.2 rfl).trans hs.2.2⟩)
      (fun s A B row hs hg' hr => by
        obtain ⟨c, e, hj, hc, hl, hk⟩ := hs
        exact ⟨c, e, hj, hIx e s A B row hc hg' (hnw hr), (grownBy_keeps hg' (fun r e => (hr r e).2) hl rfl).trans hl, (grownBy_keeps hg' (fun r e => (hr r e).2) hk rfl).trans hk⟩)
      ?_ ⟨hI1, hL1, hK1⟩))
    · refine hcall.mono ?_
      rintro e W2 ⟨⟨v, rfl⟩, (⟨xs, hS, hi, hl, hk⟩ | ⟨pre, hSp, c, e, hj, hi, hl, hk⟩)⟩
      · exact ⟨none, _, by have := run_endLoop (P := P) hl (by rw [hrec]; simp); rw [hrec] at this; exact this, hAn _ _ (hdone _ xs _ (Nat.le_refl _) hS (hI.putObj _ hi (by omega) hl rfl) ((World.putObj_heap_other (by omega)).trans hk))⟩
      · have hend := run_endLoop (P := P) hl (by rw [hrec]; simp)
        refine ⟨some c, _, by rw [hrec] at hend; exact hend, ?_⟩
        have key : ∀ o', Q e { a with defers := coll w.heap.size :: a.defers } (W2.putObj (w.heap.size + 1) o') := fun o' =>
          hA _ _ _ (hstop w.heap.size e pre _ (Nat.le_refl _) hSp ((hIx e).putObj o' hi (by omega) hl rfl) ((World.putObj_heap_other (by omega)).trans hk))
        cases hj with
        | ret => exact wpIn_ret (key _)
        | exit i => exact wpIn_exit (key _)
        | goto t => exact wpIn_goto (key _)
    · rintro pre x Wb ⟨hi, hl, hk⟩ hpin
      have hy := run_yield (P := P) (args := (encs x).toArray) hl (by rw [hrec]; simpa using hps x)
      rw [hrec] at hy
      refine ⟨fn, _, assign, body, hy, roundIn_of_wpIn trivial (wpIn_mono (hrun _ _ Wb _ (hps x) (hbody pre x Wb hi hpin)) ?_)⟩
      clear hy
      intro e a' W hpost
      cases e with
      | normal =>
        obtain ⟨hpu, hbody'⟩ := hpost
        have hl' : W.heap[w.heap.size + 1]? = some (.loop (rec .ready none)) := (hpu.block _ (Array.getElem?_eq_some_iff.1 hl).1 id).trans hl
        have hk' : W.heap[w.heap.size]? = some (.deferred (some [])) := (hpu.block _ (Array.getElem?_eq_some_iff.1 hk).1 id).trans hk
        have hlt : w.heap.size + 1 < W.heap.size := (Array.getElem?_eq_some_iff.1 hl').1
        refine ⟨_, run_beginRound hl' (by rw [hrec]), ?_⟩
        have hbody2 := hbody' _ _ { rec .ready none with state := .busy } (by omega) hl'
        obtain ⟨W2, hW2⟩ : ∃ W2, W2 = W.putObj (w.heap.size + 1) (.loop { rec .ready none with state := .busy }) := ⟨_, rfl⟩
        rw [← hW2] at hbody2 ⊢
        have hl2 : W2.heap[w.heap.size + 1]? = some (.loop { rec .ready none with state := .busy }) := by rw [hW2]; exact World.putObj_heap_same hlt
        have hk2 : W2.heap[w.heap.size]? = some (.deferred (some [])) := by rw [hW2]; exact (World.putObj_heap_other (by omega)).trans hk'
        have keep : ∀ {A : World} (o : Obj), KeepT T A (A.putObj (w.heap.size + 1) o) := fun o =>
          ⟨by simp, fun k hk => World.putObj_heap_other (by have := hT k hk; omega)⟩
        refine wpIn_mono hbody2 ?_
        have fin : ∀ (jump : Option Code) (W3 : World), KeepsFrom w.heap.size W2 W3 →
            (Instr.endRound (w.heap.size + 1) jump).run P W3 = .ok (.bool jump.isNone) (W3.putObj (w.heap.size + 1) (.loop (rec (if jump.isNone then .ready else .done) jump))) ∧
            W3.heap[w.heap.size + 1]? = some (.loop { rec .ready none with state := .busy }) ∧
            (W3.putObj (w.heap.size + 1) (.loop (rec (if jump.isNone then .ready else .done) jump))).heap[w.heap.size + 1]? = some (.loop (rec (if jump.isNone then .ready else .done) jump)) ∧
            (W3.putObj (w.heap.size + 1) (.loop (rec (if jump.isNone then .ready else .done) jump))).heap[w.heap.size]? = some (.deferred (some [])) := fun jump W3 hk3 => by
          have hl3 := hk3.same _ _ (by omega) hl2 rfl
          have := run_endRound (P := P) jump hl3
          rw [hrec] at this ⊢
          exact ⟨this, by rw [hrec] at hl3; exact hl3, World.putObj_heap_same (Array.getElem?_eq_some_iff.1 hl3).1, (World.putObj_heap_other (by omega)).trans (hk3.same _ _ (Nat.le_refl _) hk2 rfl)⟩
        rintro e a3 W3 hp
        cases e with
        | normal =>
          obtain ⟨hk3, hkp3, hi3⟩ := hp
          obtain ⟨hr, hl3, hl4, hk4⟩ := fin none W3 hk3
          exact ⟨_, _, hr, .inl ⟨rfl, ⟨hI.putObj _ hi3 (by omega) hl3 rfl, hl4, hk4⟩, hkp3.trans (keep _)⟩⟩
        | ret =>
          obtain ⟨hk3, hi3⟩ := hp
          obtain ⟨hr, hl3, hl4, hk4⟩ := fin (some .ret) W3 hk3
          exact ⟨_, _, hr, .inr ⟨rfl, .ret, .ret, .ret, (hIx _).putObj _ hi3 (by omega) hl3 rfl, hl4, hk4⟩⟩
        | exit id =>
          obtain ⟨hk3, hi3⟩ := hp
          obtain ⟨hr, hl3, hl4, hk4⟩ := fin (some (.exit id)) W3 hk3
          exact ⟨_, _, hr, .inr ⟨rfl, .exit id, .exit id, .exit id, (hIx _).putObj _ hi3 (by omega) hl3 rfl, hl4, hk4⟩⟩
        | goto t =>
          obtain ⟨hk3, hi3⟩ := hp
          obtain ⟨hr, hl3, hl4, hk4⟩ := fin (some (.goto t)) W3 hk3
          exact ⟨_, _, hr, .inr ⟨rfl, .goto t, .goto t, .goto t, (hIx _).putObj _ hi3 (by omega) hl3 rfl, hl4, hk4⟩⟩
        | panic ch => exact hp.elim
        | outgrown => exact hp.elim
      | _ => exact hpost.elim

/-! ### Soundness -/
def lft (N : Nat) (c : Code) (a : Act) (Q : Exit → Env → World → Prop) (e : Exit) (a' : Act) (w' : World) : Prop :=
  (∀ ch, e ≠ .panic ch) ∧ Same c a a' ∧ ∃ E', Fits N E' a' ∧ Q e E' w'
theorem Same.refl (c : Code) (a : Act) : Same c a a := ⟨fun _ _ => rfl, rfl, fun _ => rfl⟩
theorem Same.trans {c c1 c2 : Code} {a a1 a2 : Act} (h1 : Same c1 a a1) (h2 : Same c2 a1 a2) (hw : ∀ i, wr c i = false → wr c1 i = false ∧ wr c2 i = false) (hn : noRf c = true → noRf c1 = true ∧ noRf c2 = true) : Same c a a2 :=
  ⟨fun i hi => (h2.tmps i (hw i hi).2).trans (h1.tmps i (hw i hi).1), h2.size.trans h1.size, fun h => (h2.defs (hn h).2).trans (h1.defs (hn h).1)⟩
theorem Same.mono {c c1 : Code} {a a1 : Act} (h1 : Same c1 a a1) (hw : ∀ i, wr c i = false → wr c1 i = false) (hn : noRf c = true → noRf c1 = true) : Same c a a1 :=
  ⟨fun i hi => h1.tmps i (hw i hi), h1.size, fun h => h1.defs (hn h)⟩
theorem Same.put {id : Nat} {ops : Array Oper} {dr : Bool} {a0 a : Act} (h : Same (.region id ops dr) a0 a) {o : Oper} (ho : o ∈ ops) (v : Value) : Same (.region id ops dr) a0 (a.put o.dst v) := by
  cases hd : o.dst with
  | none => exact h
  | some d =>
    refine ⟨fun i hi => ?_, by simpa [Act.put] using h.size, h.defs⟩
    show (a.tmps.setIfInBounds d v)[i]? = _
    rw [Array.getElem?_setIfInBounds]
    have hne : ¬ d = i := by
      intro e
      subst e
      have hi : wrOps ops.toList d = false := hi
      unfold wrOps at hi
      rw [List.any_eq_false] at hi
      exact hi o (by simpa using ho) (by rw [hd]; exact Nat.beq_refl d)
    rw [if_neg hne]
    exact h.tmps i hi
theorem Fits.knowing {N : Nat} {E : Env} {a : Act} (h : Fits N E a) {x : Operand} {b : Bool} (hx : E.ent x = some (.va (.bool b))) : Fits N (E.know x b) a := by
  cases x with
  | tmp t => exact h.know hx
  | _ => exact h
theorem fold_put {N : Nat} : ∀ (ps : List Tmp) (vs : List Value) (E : Env) (t : Array Value), (ps.all fun p => Nat.blt p N) = true → Fits N E ⟨t, []⟩ →
    Fits N (E.bindP ps vs) ⟨(ps.zip vs).foldl (fun t (p, v) => t.setIfInBounds p v) t, []⟩
  | [], vs, E, t, _, h => h
  | _ :: _, [], E, t, _, h => h
  | p :: ps, v :: vs, E, t, hp, h => by
    simp only [List.all_cons, Bool.and_eq_true] at hp
    exact fold_put ps vs _ _ hp.2 (h.put (d := some p) hp.1 (.va v))
theorem pickX_map {es : List Xt} {f : Xt → Nat → World → Prop} {e : Exit} {D : Nat} {W : World} (h : pickX (es.map fun x => (x, f x)) e D W) : (∀ ch, e ≠ .panic ch) ∧ ∃ x : Xt, x.exit = e ∧ f x D W := by
  induction es with
  | nil => exact h.elim
  | cons x es ih =>
    cases x with
    | rt =>
      cases e with
      | ret => exact ⟨by simp, .rt, rfl, h⟩
      | _ => exact ih h
    | ex i =>
      cases e with
      | exit j =>
        simp only [List.map_cons, pickX] at h
        cases hb : Nat.beq i j with
        | true => rw [hb] at h; exact ⟨by simp, .ex i, by rw [beq_iff'.1 hb]; rfl, h⟩
        | false => rw [hb] at h; exact ih h
      | _ => exact ih h
theorem zip_fold (ps : Array Tmp) (vs : List Value) (t : Array Value) : (ps.zip vs.toArray).foldl (fun t (p, v) => t.setIfInBounds p v) t = (ps.toList.zip vs).foldl (fun t (p, v) => t.setIfInBounds p v) t := by
  rw [← Array.foldl_toList, Array.toList_zip]
theorem vc_sound (hm : P.follows .mixedOrders = true) {N : Nat} {top : Bool} : ∀ {F : Fence} (_ : OkF F) (_ : top = true → F = Fence.wide) (c : Code) (ann : Ann) (E : Env) (Q : Exit → Env → World → Prop) (w : World) (a : Act) (n : Nat),
    codeOk N c = true → Fits N E a → vc P top c ann E Q w → c.wpIn F n P (lft N c a Q) a w := by
  intro F hF htop c
  induction c generalizing top F with
  | skip => intro ann E Q w a n _ hfit h; exact wpIn_skip ⟨by simp, Same.refl _ _, E, hfit, by simpa [vc] using h⟩
  | label l => intro ann E Q w a n _ hfit h; exact wpIn_label ⟨by simp, Same.refl _ _, E, hfit, by simpa [vc] using h⟩
  | exit id => intro ann E Q w a n _ hfit h; exact wpIn_exit ⟨by simp, Same.refl _ _, E, hfit, by simpa [vc] using h⟩
  | ret => intro ann E Q w a n _ hfit h; exact wpIn_ret ⟨by simp, Same.refl _ _, E, hfit, by simpa [vc] using h⟩
  | goto l => intro ann E Q w a n _ hfit h; simp [vc] at h
  | refuse s => intro ann E Q w a n _ hfit h; simp [vc] at h
  | scope b ih => intro ann E Q w a n _ hfit h; simp [vc] at h
  | region id ops dr =>
    intro ann E Q w a n hok hfit h
    have hd : dstsOk N ops.toList = true := hok
    have hR : ∀ (a1 : Act) (o : Oper) (v : Value), o ∈ ops → Same (.region id ops dr) a a1 → Same (.region id ops dr) a (a1.put o.dst v) := fun a1 o v ho hs => hs.put ho v
    have hQ : ∀ (E' : Env) (a' : Act) (w' : World), Fits N E' a' → Same (.region id ops dr) a a' → Q .normal E' w' → lft N (.region id ops dr) a Q .normal a' w' := fun E' a' w' hf hs hq => ⟨by simp, hs, E', hf, hq⟩
    cases dr with
    | false =>
      have h : vcOps P ops.toList ops.toList E w (Q .normal) := by simpa [vc] using h
      exact vcRegion_sound hF hR hQ hd hfit (Same.refl _ _) h
    | true =>
      cases ann with
      | draw l =>
        simp only [vc, cond_true] at h
        cases hl : drawOk ops.toList l with
        | false => rw [hl] at h; exact h.elim
        | true =>
          rw [hl] at h
          exact vcDraw_sound hF hm hR hQ (fun c a' w' hq => hq.1 c rfl) hd hl hfit (Same.refl _ _) h
      | _ => simp [vc] at h
  | seq x y ihx ihy =>
    intro ann E Q w a n hok hfit h
    simp only [codeOk, Bool.and_eq_true] at hok
    have hw1 : ∀ i, wr (.seq x y) i = false → wr x i = false ∧ wr y i = false := fun i hi => by simpa [wr] using hi
    have hn1 : noRf (.seq x y) = true → noRf x = true ∧ noRf y = true := fun hi => by simpa [noRf] using hi
    have done : ∀ e (a' : Act) (w' : World), e ≠ .normal → (∃ E', Fits N E' a' ∧ Q e E' w') → (∀ ch, e ≠ .panic ch) → Same x a a' → lft N (.seq x y) a Q e a' w' :=
      fun e a' w' _ hq hp hs => ⟨hp, hs.mono (fun i hi => (hw1 i hi).1) (fun hi => (hn1 hi).1), hq⟩
    have second : ∀ (ann : Ann) (E1 : Env) (a1 : Act) (w1 : World), Same x a a1 → Fits N E1 a1 → vc P top y ann E1 Q w1 → y.wpIn F n P (lft N (.seq x y) a Q) a1 w1 := fun ann E1 a1 w1 hs hf hv =>
      wpIn_mono (ihy hF htop ann E1 Q w1 a1 n hok.2 hf hv) fun e a2 w2 hq => ⟨hq.1, hs.trans hq.2.1 hw1 hn1, hq.2.2⟩
    cases ann with
    | seq ax ay =>
      simp only [vc] at h
      refine wpIn_seq (wpIn_mono (ihx hF htop ax E _ w a n hok.1 hfit h) ?_)
      rintro e a1 w1 ⟨hp, hs, E1, hf, hq⟩
      cases e with
      | normal => exact second ay E1 a1 w1 hs hf hq
      | panic ch => exact absurd rfl (hp ch)
      | _ => exact done _ _ _ (by simp) ⟨E1, hf, hq⟩ hp hs
    | join ss ax ay =>
      simp only [vc] at h
      cases hs0 : okS x ss with
      | false => rw [hs0] at h; exact h.elim
      | true =>
        rw [hs0] at h
        simp only [cond_true] at h
        cases hrf : noRf x with
        | true =>
          rw [hrf] at h
          obtain ⟨J, hJ, h⟩ := h
          refine wpIn_seq (wpIn_mono (ihx hF htop ax E _ w a n hok.1 hfit h) ?_)
          rintro e a1 w1 ⟨hp, hs, E1, hf, hq⟩
          cases e with
          | normal =>
            obtain ⟨vs, hj, hl, hv⟩ := valsK_spec hf hq
            have hr := hJ vs w1 hj
            rw [app_lam hl] at hr
            exact second ay _ a1 w1 hs (hfit.bind (E' := E) hs ((hs.defs hrf).trans hfit.defs) hv) hr
          | panic ch => exact absurd rfl (hp ch)
          | _ => exact done _ _ _ (by simp) ⟨E1, hf, hq⟩ hp hs
        | false =>
          rw [hrf] at h
          obtain ⟨J, hJ, h⟩ := h
          refine wpIn_seq (wpIn_mono (ihx hF htop ax E _ w a n hok.1 hfit h) ?_)
          rintro e a1 w1 ⟨hp, hs, E1, hf, hq⟩
          cases e with
          | normal =>
            obtain ⟨vs, hj, hl, hv⟩ := valsK_spec hf hq
            have hr := hJ E1.ds vs w1 hj
            rw [app_lam hl] at hr
            exact second ay _ a1 w1 hs (hfit.bind hs hf.defs hv) hr
          | panic ch => exact absurd rfl (hp ch)
          | _ => exact done _ _ _ (by simp) ⟨E1, hf, hq⟩ hp hs
    | _ => simp [vc] at h
  | cond c x y ihx ihy =>
    intro ann E Q w a n hok hfit h
    simp only [codeOk, Bool.and_eq_true] at hok
    have left : ∀ (ann : Ann) (E1 : Env), Fits N E1 a → vc P top x ann E1 Q w → x.wpIn F n P (lft N (.cond c x y) a Q) a w := fun ann E1 hf hv =>
      wpIn_mono (ihx hF htop ann E1 Q w a n hok.1 hf hv) fun e a2 w2 hq => ⟨hq.1, hq.2.1.mono (fun i hi => by simp [wr] at hi; exact hi.1) (fun hi => by simp [noRf] at hi; exact hi.1), hq.2.2⟩
    have right : ∀ (ann : Ann) (E1 : Env), Fits N E1 a → vc P top y ann E1 Q w → y.wpIn F n P (lft N (.cond c x y) a Q) a w := fun ann E1 hf hv =>
      wpIn_mono (ihy hF htop ann E1 Q w a n hok.2 hf hv) fun e a2 w2 hq => ⟨hq.1, hq.2.1.mono (fun i hi => by simp [wr] at hi; exact hi.2) (fun hi => by simp [noRf] at hi; exact hi.2), hq.2.2⟩
    cases ann with
    | cond ax ay =>
      simp only [vc] at h
      cases hc : E.ent c with
      | none => rw [hc] at h; exact h.elim
      | some ec =>
        rw [hc] at h
        have hev := hfit.ent hc
        cases ec with
        | un => exact h.elim
        | bo b =>
          cases b with
          | true => exact wpIn_cond_true hev (left ax E hfit h)
          | false => exact wpIn_cond_false hev (right ay E hfit h)
        | va v =>
          obtain ⟨b, rfl, h1, h2⟩ := gd_iff.1 h
          cases b with
          | true => exact wpIn_cond_true hev (left ax _ (hfit.knowing hc) (h1 rfl))
          | false => exact wpIn_cond_false hev (right ay _ (hfit.knowing hc) (h2 rfl))
    | _ => simp [vc] at h
  | block id b ih =>
    intro ann E Q w a n hok hfit h
    cases ann with
    | one x =>
      simp only [vc] at h
      refine wpIn_block (wpIn_mono (ih hF htop x E _ w a n hok hfit h) ?_)
      rintro e a1 w1 ⟨hp, hs, E1, hf, hq⟩
      have hs' : Same (.block id b) a a1 := hs.mono (fun i hi => hi) (fun hi => hi)
      cases e with
      | exit i =>
        simp only [inB] at hq
        show if i = id then _ else _
        by_cases hi : i = id
        · subst hi
          rw [if_pos rfl]
          rw [Nat.beq_refl] at hq
          exact ⟨by simp, hs', E1, hf, hq⟩
        · rw [if_neg hi]
          have : Nat.beq i id = false := by
            cases hb : Nat.beq i id with
            | false => rfl
            | true => exact absurd (beq_iff'.1 hb) hi
          rw [this] at hq
          exact ⟨by simp, hs', E1, hf, hq⟩
      | panic ch => exact absurd rfl (hp ch)
      | _ => exact ⟨hp, hs', E1, hf, hq⟩
    | _ => simp [vc] at h
  | loop b ih =>
    intro ann E Q w a n hok hfit h
    cases ann with
    | loop ss x =>
      simp only [vc] at h
      cases hs0 : okS b ss with
      | false => rw [hs0] at h; exact h.elim
      | true =>
        rw [hs0] at h
        simp only [cond_true] at h
        obtain ⟨vs0, h, hl0, hv0⟩ := valsK_spec hfit h
        have up : ∀ {a1 : Act}, Same b a a1 → Same (.loop b) a a1 := fun hs => hs.mono (fun i hi => hi) (fun hi => hi)
        have tr : ∀ {a1 a2 : Act}, Same b a a1 → Same b a1 a2 → Same b a a2 := fun h1 h2 => h1.trans h2 (fun i hi => ⟨hi, hi⟩) (fun hi => ⟨hi, hi⟩)
        cases hrf : noRf b with
        | true =>
          rw [hrf] at h
          obtain ⟨I, μ, hI, hstep⟩ := h
          refine wpIn_mono (Q := fun e a' w' => e ≠ .normal ∧ lft N (.loop b) a Q e a' w') (wpIn_loop (fun a' w' => ∃ vs, Same b a a' ∧ app ss.length I vs w' ∧ ∀ (j s : Nat) (v : Value), ss[j]? = some s → vs[j]? = some v → a'.tmps[s]? = some v)
            (fun a' w' => μ (ss.map fun s => a'.tmps.getD s undef) w') ⟨vs0, Same.refl _ _, hI, hv0⟩ ?_) (fun e a' w' hq => hq.2)
          rintro a1 w1 ⟨vs, hs, hJ, hv⟩
          have hlen := app_len hJ
          have hvs : (ss.map fun s => a1.tmps.getD s undef) = vs := by
            refine List.ext_getElem? fun j => ?_
            rw [List.getElem?_map]
            cases hj : ss[j]? with
            | none => simp at hj; simp; omega
            | some s =>
              have hjl : j < vs.length := by rw [hlen]; exact (List.getElem?_eq_some_iff.1 hj).1
              have := hv j s vs[j] hj (by simp [hjl])
              simp [Array.getD_eq_getD_getElem?, this, hjl]
          have hst := hstep vs w1 hJ
          rw [app_lam hlen] at hst
          refine wpIn_mono (ih hF htop x _ _ w1 a1 n hok (hfit.bind (E' := E) hs ((hs.defs hrf).trans hfit.defs) hv) hst) ?_
          rintro e a2 w2 ⟨hp, hs2, E2, hf2, hq⟩
          cases e with
          | normal =>
            obtain ⟨vs2, hj2, hl2, hv2⟩ := valsK_spec hf2 hq
            rw [app_lam hl2] at hj2
            have hvs2 : (ss.map fun s => a2.tmps.getD s undef) = vs2 := by
              refine List.ext_getElem? fun j => ?_
              rw [List.getElem?_map]
              cases hj : ss[j]? with
              | none => simp at hj; simp; omega
              | some s =>
                have hjl : j < vs2.length := by rw [hl2]; exact (List.getElem?_eq_some_iff.1 hj).1
                have := hv2 j s vs2[j] hj (by simp [hjl])
                simp [Array.getD_eq_getD_getElem?, this, hjl]
            refine ⟨⟨vs2, tr hs hs2, hj2.1, hv2⟩, ?_⟩
            show μ (ss.map fun s => a2.tmps.getD s undef) w2 < μ (ss.map fun s => a1.tmps.getD s undef) w1
            rw [hvs, hvs2]
            exact hj2.2
          | panic ch => exact absurd rfl (hp ch)
          | _ => exact ⟨by simp, hp, up (tr hs hs2), E2, hf2, hq⟩
        | false =>
          rw [hrf] at h
          obtain ⟨I, μ, hI, hstep⟩ := h
          refine wpIn_mono (Q := fun e a' w' => e ≠ .normal ∧ lft N (.loop b) a Q e a' w') (wpIn_loop (fun a' w' => ∃ ds vs, Same b a a' ∧ a'.defers = ds.map coll ∧ app ss.length (I ds) vs w' ∧ ∀ (j s : Nat) (v : Value), ss[j]? = some s → vs[j]? = some v → a'.tmps[s]? = some v)
            (fun a' w' => μ (ss.map fun s => a'.tmps.getD s undef) w') ⟨E.ds, vs0, Same.refl _ _, hfit.defs, hI, hv0⟩ ?_) (fun e a' w' hq => hq.2)
          rintro a1 w1 ⟨ds, vs, hs, hds, hJ, hv⟩
          have hlen := app_len hJ
          have hvs : (ss.map fun s => a1.tmps.getD s undef) = vs := by
            refine List.ext_getElem? fun j => ?_
            rw [List.getElem?_map]
            cases hj : ss[j]? with
            | none => simp at hj; simp; omega
            | some s =>
              have hjl : j < vs.length := by rw [hlen]; exact (List.getElem?_eq_some_iff.1 hj).1
              have := hv j s vs[j] hj (by simp [hjl])
              simp [Array.getD_eq_getD_getElem?, this, hjl]
          have hst := hstep ds vs w1 hJ
          rw [app_lam hlen] at hst
          refine wpIn_mono (ih hF htop x _ _ w1 a1 n hok (hfit.bind (E' := { E with ds := ds }) hs hds hv) hst) ?_
          rintro e a2 w2 ⟨hp, hs2, E2, hf2, hq⟩
          cases e with
          | normal =>
            obtain ⟨vs2, hj2, hl2, hv2⟩ := valsK_spec hf2 hq
            rw [app_lam hl2] at hj2
            have hvs2 : (ss.map fun s => a2.tmps.getD s undef) = vs2 := by
              refine List.ext_getElem? fun j => ?_
              rw [List.getElem?_map]
              cases hj : ss[j]? with
              | none => simp at hj; simp; omega
              | some s =>
                have hjl : j < vs2.length := by rw [hl2]; exact (List.getElem?_eq_some_iff.1 hj).1
                have := hv2 j s vs2[j] hj (by simp [hjl])
                simp [Array.getD_eq_getD_getElem?, this, hjl]
            refine ⟨⟨E2.ds, vs2, tr hs hs2, hf2.defs, hj2.1, hv2⟩, ?_⟩
            show μ (ss.map fun s => a2.tmps.getD s undef) w2 < μ (ss.map fun s => a1.tmps.getD s undef) w1
            rw [hvs, hvs2]
            exact hj2.2
          | panic ch => exact absurd rfl (hp ch)
          | _ => exact ⟨by simp, hp, up (tr hs hs2), E2, hf2, hq⟩
    | _ => simp [vc] at h
  | rangeFunc g ps x y ihx ihy =>
    intro ann E Q w a n hok hfit h
    cases ann with
    | rng es ax ay =>
      cases top with
      | false => simp [vc] at h
      | true =>
        obtain rfl := htop rfl
        simp only [vc, cond_true] at h
        simp only [codeOk, Bool.and_eq_true] at hok
        cases hg : E.ent g with
        | none => rw [hg] at h; exact h.elim
        | some e =>
          rw [hg] at h
          refine wpIn_wide.2 (wpIn_wide.1 (range_vc (hfit.ent hg) h ?_ ?_ ?_))
          · intro l vs W q hl hB
            rw [app_lam hl] at hB
            have hfit0 : Fits N ({ E with ds := [] } : Env) ⟨a.tmps, []⟩ := ⟨hfit.get, hfit.size, rfl⟩
            have hf := fold_put ps.toList vs _ _ hok.1.1 hfit0
            rw [← zip_fold] at hf
            refine wpIn_mono (ihx (top := false) (okRound l) (by simp) ax _ _ W _ 0 hok.1.2 hf hB) ?_
            rintro e1 a1 W1 ⟨hp, hs, E1, hf1, hq⟩
            cases e1 with
            | normal =>
              refine ⟨hq.1, fun l' o o' hl' ho => ?_⟩
              refine wpIn_mono (ihy (top := false) (okRound l) (by simp) ay E1 _ _ a1 0 hok.2 hf1 (hq.2 l' o o' hl' ho)) ?_
              rintro e2 a2 W2 ⟨_, _, E2, _, hq2⟩
              exact hq2
            | panic ch => exact absurd rfl (hp ch)
            | _ => exact hq.elim
          · intro D W hA
            exact ⟨by simp, ⟨fun i _ => rfl, rfl, fun hn => by simp [noRf] at hn⟩, { E with ds := D :: E.ds }, ⟨hfit.get, hfit.size, by simp [hfit.defs]⟩, hA⟩
          · intro D e' W hA
            obtain ⟨hp, xt, hx, hA'⟩ := pickX_map (f := fun x D W => Q x.exit { E with ds := D :: E.ds } W) hA
            subst hx
            exact ⟨hp, ⟨fun i _ => rfl, rfl, fun hn => by simp [noRf] at hn⟩, { E with ds := D :: E.ds }, ⟨hfit.get, hfit.size, by simp [hfit.defs]⟩, hA'⟩
    | _ => simp [vc] at h

/-! ### Functions -/
def argEnv : List Value → Nat → Option Ent
  | [], _ => none
  | v :: _, 0 => some (.va v)
  | _ :: vs, n + 1 => argEnv vs n
theorem argEnv_get : ∀ (vs : List Value) (i : Nat) (e : Ent), argEnv vs i = some e → vs[i]? = some e.val
  | [], _, _, h => by cases h
  | _ :: _, 0, _, h => by injection h with h; subst h; rfl
  | _ :: vs, n + 1, e, h => argEnv_get vs n e h
/-- The marks that ranges over iterators have left are taken away. -/
def fin : List Nat → World → (World → Prop) → Prop
  | [], w, X => X w
  | D :: ds, w, X => w.heap[D]? = some (.deferred (some [])) ∧ fin ds (w.putObj D (.deferred none)) X
def rd (P : Program) (s : Sem Value) (w : World) (K : Value → Prop) : Prop := onOk (s.run P w) fun v w' => w' = w ∧ K v
theorem rd_iff {P : Program} {s : Sem Value} {w : World} {K : Value → Prop} : rd P s w K ↔ ∃ v, s.run P w = .ok v w ∧ K v := by
  unfold rd onOk
  constructor
  · intro h
    cases hr : s.run P w with
    | ok v w' => rw [hr] at h; obtain ⟨rfl, h⟩ := h; exact ⟨v, rfl, h⟩
    | halt x w' => rw [hr] at h; exact h.elim
  · rintro ⟨v, hr, h⟩
    rw [hr]; exact ⟨rfl, h⟩
def resV (P : Program) (E : Env) (w : World) : List ResultVar → (List Value → Prop) → Prop
  | [], k => k []
  | .tmp t :: rs, k => match E.get t with
    | some e => resV P E w rs fun vs => k (e.val :: vs)
    | none => False
  | .cell t ty :: rs, k => match E.get t with
    | some e => rd P (Instr.loadAt ty e.val) w fun v => resV P E w rs fun vs => k (v :: vs)
    | none => False
def tup : List Value → Value
  | [v] => v
  | vs => .tuple vs.toArray
def retQ (P : Program) (rs : List ResultVar) (R : Value → World → Prop) : Exit → Env → World → Prop
  | .normal, E, w => fin E.ds w fun w' => resV P E w' rs fun vs => R (tup vs) w'
  | .ret, E, w => fin E.ds w fun w' => resV P E w' rs fun vs => R (tup vs) w'
  | _, _, _ => False
def resSem (tmps : Array Value) : ResultVar → Sem Value
  | .tmp t => pure (tmps.getD t undef)
  | .cell b t => do loadVar t (← asAddr (tmps.getD b undef))
theorem resV_run {N : Nat} {E : Env} {a : Act} (hfit : Fits N E a) {w : World} : ∀ {rs : List ResultVar} {k : List Value → Prop}, resV P E w rs k → ∃ vs, k vs ∧ vs.length = rs.length ∧
    (rs.mapM (resSem a.tmps)).run P w = .ok vs w
  | [], k, h => ⟨[], h, rfl, rfl⟩
  | .tmp t :: rs, k, h => by
    simp only [resV] at h
    cases he : E.get t with
    | none => rw [he] at h; exact h.elim
    | some e =>
      rw [he] at h
      obtain ⟨vs, h1, h2, h3⟩ := resV_run hfit h
      have hg : a.tmps.getD t undef = e.val := by rw [Array.getD_eq_getD_getElem?, hfit.get _ _ he]; rfl
      refine ⟨e.val :: vs, h1, by simp [h2], ?_⟩
      rw [List.mapM_cons]
      simp only [resSem, Sem.run_bind, Sem.run_pure, Result.andThen_ok, h3, hg]
  | .cell t ty :: rs, k, h => by
    simp only [resV] at h
    cases he : E.get t with
    | none => rw [he] at h; exact h.elim
    | some e =>
      rw [he] at h
      obtain ⟨v, hv, h⟩ := rd_iff.1 h
      obtain ⟨vs, h1, h2, h3⟩ := resV_run hfit h
      have hg : a.tmps.getD t undef = e.val := by rw [Array.getD_eq_getD_getElem?, hfit.get _ _ he]; rfl
      have hl : (resSem a.tmps (.cell t ty)).run P w = .ok v w := by
        show (do loadVar ty (← asAddr (a.tmps.getD t undef)) : Sem Value).run P w = .ok v w
        rw [hg]
        unfold Instr.loadAt at hv
        cases hev : e.val with
        | pointer p => cases p with
          | none => rw [hev] at hv; simp [Instr.sureAddr] at hv
          | some p => rw [hev] at hv; simpa [Instr.sureAddr, asAddr] using hv
        | _ => rw [hev] at hv; simp [Instr.sureAddr] at hv
      refine ⟨v :: vs, h1, by simp [h2], ?_⟩
      rw [List.mapM_cons]
      rw [Sem.run_bind, hl]
      simp only [Sem.run_bind, Sem.run_pure, Result.andThen_ok, h3]
theorem results_run {N : Nat} {E : Env} {a : Act} (hfit : Fits N E a) {w : World} {fn : Func} {k : List Value → Prop} (h : resV P E w fn.results.toList k) : ∃ vs, k vs ∧ (results fn a.tmps).run P w = .ok (tup vs) w := by
  obtain ⟨vs, h1, h2, h3⟩ := resV_run hfit h
  refine ⟨vs, h1, ?_⟩
  have key : ∀ f : ResultVar → Sem Value, f = resSem a.tmps → (fn.results.mapM f).run P w = .ok vs.toArray w := by
    intro f hf
    rw [hf, Array.mapM_eq_mapM_toList, Sem.run_map, h3]; rfl
  unfold results
  rw [Sem.run_bind, key _ (by funext r; cases r <;> rfl)]
  simp only [Result.andThen_ok, Sem.run_pure]
  congr 1
  match vs with
  | [] => rfl
  | [v] => rfl
  | _ :: _ :: _ => rw [dif_neg (by simp)]; rfl
/-- A FUNCTION's CONTRACT: the condition of its code holds. -/
theorem ret_of_vc {f : FuncId} {fn : Func} {c : Code} {ann : Ann} {args : List Value} {w : World} {R : Value → World → Prop} (hm : P.follows .mixedOrders = true) (he : Enters P f)
    (hf : P.funcs[f]? = some fn) (hb : fn.body = some c) (hok : codeOk fn.ntmps c = true) (hl : Nat.ble args.length fn.ntmps = true)
    (h : vc P true c ann { get := argEnv args, ds := [] } (retQ P fn.results.toList R) w) : Ret P f args.toArray w R := by
  refine Ret.mk he (callsIn_wide.1 (callsIn_of_wp_marks (n := 2) hf hb trivial ?_ rfl))
  have hle := Nat.le_of_ble_eq_true hl
  have hfit : Fits fn.ntmps { get := argEnv args, ds := [] } { tmps := args.toArray ++ Array.replicate (fn.ntmps - args.toArray.size) undef, defers := [] } := by
    refine ⟨fun i e hi => ?_, by simp; omega, rfl⟩
    have := argEnv_get args i e hi
    rw [Array.getElem?_append_left (by simpa using (List.getElem?_eq_some_iff.1 this).1)]
    simpa using this
  refine wpIn_mono (vc_sound hm okWide (fun _ => rfl) c ann _ _ w _ 2 hok hfit h) ?_
  have leave : ∀ (ds : List Nat) (E : Env) (a' : Act) (w' : World), Fits fn.ntmps E a' → fin ds w' (fun w2 => resV P E w2 fn.results.toList fun vs => R (tup vs) w2) →
      LeavesInM Fence.wide 2 P fn a'.tmps (fun e w' => ∃ v, e = .returned v ∧ R v w') (ds.map coll) .returning w' := by
    intro ds
    induction ds with
    | nil =>
      intro E a' w' hf h
      obtain ⟨vs, h1, h2⟩ := results_run hf h
      exact ⟨_, h2, _, rfl, h1⟩
    | cons D ds ih =>
      intro E a' w' hf h
      obtain ⟨hD, h⟩ := h
      refine ⟨by simp, .inl ⟨D, _, rfl, ?_, ih E a' _ hf h⟩⟩
      have hlt : D < w'.heap.size := (Array.getElem?_eq_some_iff.1 hD).1
      simp [Instr.takeDeferred, getObj, setObj, Sem.run, hD, World.putObj]
  rintro e a' w' ⟨hp, _, E', hf', hq⟩
  cases e with
  | normal => show LeavesInM _ _ _ _ _ _ a'.defers _ _; rw [hf'.defs]; exact leave _ _ _ _ hf' hq
  | ret => show LeavesInM _ _ _ _ _ _ a'.defers _ _; rw [hf'.defs]; exact leave _ _ _ _ hf' hq
  | panic ch => exact absurd rfl (hp ch)
  | _ => exact hq.elim
theorem joinK_iff {n : Nat} {R : Car n} {B : Car n → Prop} : joinK n R B ↔ ∃ J : Car n, (∀ vs w, app n J vs w → app n R vs w) ∧ B J := Iff.rfl
theorem joinD_iff {n : Nat} {R : List Nat → Car n} {B : (List Nat → Car n) → Prop} : joinD n R B ↔ ∃ J : List Nat → Car n, (∀ ds vs w, app n (J ds) vs w → app n (R ds) vs w) ∧ B J := Iff.rfl
theorem loopK_iff {n : Nat} {init : List Value} {w : World} {body : Car n → Car n} : loopK n init w body ↔
  ∃ (I : Car n) (μ : List Value → World → Nat), app n I init w ∧ ∀ vs w, app n I vs w → app n (body (lam n fun vs' w' => app n I vs' w' ∧ μ vs' w' < μ vs w)) vs w := Iff.rfl
theorem loopD_iff {n : Nat} {ds : List Nat} {init : List Value} {w : World} {body : (List Nat → Car n) → List Nat → Car n} : loopD n ds init w body ↔
  ∃ (I : List Nat → Car n) (μ : List Value → World → Nat), app n (I ds) init w ∧ ∀ ds vs w, app n (I ds) vs w → app n (body (fun ds' => lam n fun vs' w' => app n (I ds') vs' w' ∧ μ vs' w' < μ vs w) ds) vs w := Iff.rfl
theorem asn_iff {n0 : Nat} {W W' : World} {X : World → Prop} : asn n0 W W' X ↔ Pure W W' ∧ ∀ (l : Nat) (o o' : Loop), n0 ≤ l → W'.heap[l]? = some (.loop o) → X (W'.putObj l (.loop o')) := Iff.rfl
theorem fin_nil_eq {w : World} {X : World → Prop} : fin [] w X = X w := rfl
theorem fin_cons_eq {D : Nat} {ds : List Nat} {w : World} {X : World → Prop} : fin (D :: ds) w X = (w.heap[D]? = some (.deferred (some [])) ∧ fin ds (w.putObj D (.deferred none)) X) := rfl
attribute [irreducible] joinK joinD loopK loopD rd asn fin
end Go.Proofs.Ytchmcjimnliodaa
end
section
set_option linter.unusedSimpArgs false
set_option linter.unusedVariables false
/- The program draws all its orders. -/
namespace Go.Proofs.Ytchmcjimnliodaa
open Go
theorem mixed : Try.prog.follows .mixedOrders = true := by kernel_rfl
end Go.Proofs.Ytchmcjimnliodaa
end
section
set_option linter.unusedSimpArgs false
set_option linter.unusedVariables false
/- A generator of verification conditions: the words of a walk. No program in sight. -/
namespace Go.Proofs.Ytchmcjimnliodaa
open Go Go.RowKit

variable {P : Program} {w : World}
theorem onOk_ok (v : Value) (w : World) (K : Value → World → Prop) : onOk (.ok v w) K = K v w := rfl
theorem onOkU_ok (w : World) (K : World → Prop) : onOkU (.ok () w) K = K w := rfl
theorem onOk_ite (c : Prop) [Decidable c] (x y : Result Value) (K : Value → World → Prop) : onOk (if c then x else y) K = if c then onOk x K else onOk y K := by split <;> rfl
@[congr] theorem onOk_congr {r r' : Result Value} {K : Value → World → Prop} (h : r = r') : onOk r K = onOk r' K := by rw [h]
@[congr] theorem onOkU_congr {r r' : Result Unit} {K : World → Prop} (h : r = r') : onOkU r K = onOkU r' K := by rw [h]
@[congr] theorem val_congr {s : Sem Value} {K : Value → World → Prop} : val P s w K = val P s w K := rfl
@[congr] theorem unt_congr {s : Sem Unit} {K : World → Prop} : unt P s w K = unt P s w K := rfl
@[congr] theorem rd_congr {s : Sem Value} {K : Value → Prop} : rd P s w K = rd P s w K := rfl
@[congr] theorem pu_congr {s : Sem Value} {K : Value → Prop} : pu P s K = pu P s K := rfl
@[congr] theorem tk_congr {T : Nat → World → Prop} {hi : Nat} {s : Sem Value} {K : Value → Prop} : tk P T hi s K = tk P T hi s K := rfl
@[congr] theorem gd_congr {v v' : Value} {b : Bool} {A B : Prop} (h : v = v') : gd v b A B = gd v' b A B := by rw [h]
@[congr] theorem pick3_congr {v v' x x' y y' : Value} {K : Value → Prop} (h : v = v') (hx : x = x') (hy : y = y') : pick3 v x y K = pick3 v' x' y' K := by rw [h, hx, hy]
@[congr] theorem Ret_congr {f : FuncId} {a a' : Array Value} {K : Value → World → Prop} (h : a = a') : Ret P f a w K = Ret P f a' w K := by rw [h]
@[congr] theorem dyn_congr {f f' : Value} {a a' : List Value} {K : Value → World → Prop} (hf : f = f') (h : a = a') : dyn P f a w K = dyn P f' a' w K := by rw [h, hf]
@[congr] theorem joinK_congr {n : Nat} {R : Car n} {B : Car n → Prop} : joinK n R B = joinK n R B := rfl
@[congr] theorem joinD_congr {n : Nat} {R : List Nat → Car n} {B : (List Nat → Car n) → Prop} : joinD n R B = joinD n R B := rfl
@[congr] theorem loopK_congr {n : Nat} {i i' : List Value} {B : Car n → Car n} (h : i = i') : loopK n i w B = loopK n i' w B := by rw [h]
@[congr] theorem loopD_congr {n : Nat} {ds : List Nat} {i i' : List Value} {B : (List Nat → Car n) → List Nat → Car n} (h : i = i') : loopD n ds i w B = loopD n ds i' w B := by rw [h]
@[congr] theorem drw_congr {B : (Nat → World → Prop) → World → Prop} : drw w B = drw w B := rfl
@[congr] theorem ph_congr {T : Nat → World → Prop} {p : Nat} {X : Prop} : ph T p w X = ph T p w X := rfl
@[congr] theorem two_congr {A B : Prop} : two A B = two A B := rfl
@[congr] theorem Rng_congr {g g' : Value} {np : Nat} {B : (World → World → Exit → World → Prop) → Car np} {An : Nat → World → Prop} {L : List (Xt × (Nat → World → Prop))} (h : g = g') : Rng P g np w B An L = Rng P g' np w B An L := by rw [h]
@[congr] theorem puR_congr {r r' : World → Result Value} {K : Value → Prop} (h : ∀ w, r w = r' w) : puR r K = puR r' K := by rw [show r = r' from funext h]
theorem puR_ok (v : Value) (K : Value → Prop) : puR (fun w => .ok v w) K = K v := by
  apply propext
  constructor
  · intro hh
    obtain ⟨v', h, k⟩ := puR_iff.1 hh
    have := h default
    injection this with h1
    rw [h1]; exact k
  · intro k; exact puR_iff.2 ⟨v, fun _ => rfl, k⟩
/-- Ahead of the first change the world is the one in which the region began. -/
def atW (w : World) : Nat → World → Prop := fun p w' => p = 0 → w' = w
theorem tk_at (s : Sem Value) (w : World) (K : Value → Prop) : tk P (atW w) 0 s K = rd P s w K := by
  apply propext
  rw [rd_iff, tk_iff]
  constructor
  · rintro ⟨v, h, k⟩; exact ⟨v, h 0 w (Nat.le_refl _) (fun _ => rfl), k⟩
  · rintro ⟨v, h, k⟩
    refine ⟨v, fun p w' hp hT => ?_, k⟩
    have : p = 0 := by omega
    rw [hT this]; exact h
theorem drw_at {B : (Nat → World → Prop) → World → Prop} (h : B (atW w.drew) w.drew) : drw w B := drw_iff.2 ⟨atW w.drew, fun _ => rfl, h⟩
theorem ph_at {w0 : World} {p : Nat} {X : Prop} (h : X) : ph (atW w0) (p + 1) w X := ph_iff.2 ⟨fun e => by omega, h⟩
theorem gd_bool (b : Bool) (A B : Prop) : gd (.bool b) true A B = ((b = true → A) ∧ (b = false → B)) := by
  apply propext
  rw [gd_iff]
  constructor
  · rintro ⟨c, hc, h1, h2⟩; injection hc with hc; subst hc; exact ⟨h1, fun h => h2 (by rw [h]; rfl)⟩
  · rintro ⟨h1, h2⟩; exact ⟨b, rfl, h1, fun h => h2 (by cases b <;> first | rfl | cases h)⟩
theorem gd_bool' (b : Bool) (A B : Prop) : gd (.bool b) false A B = ((b = false → A) ∧ (b = true → B)) := by
  apply propext
  rw [gd_iff]
  constructor
  · rintro ⟨c, hc, h1, h2⟩; injection hc with hc; subst hc; exact ⟨h1, fun h => h2 (by rw [h]; rfl)⟩
  · rintro ⟨h1, h2⟩; exact ⟨b, rfl, h1, fun h => h2 (by cases b <;> first | rfl | cases h)⟩
theorem gd_true (A B : Prop) : gd (.bool true) true A B = A := by rw [gd_bool]; simp
theorem gd_false (A B : Prop) : gd (.bool false) true A B = B := by rw [gd_bool]; simp
theorem gd_true' (A B : Prop) : gd (.bool true) false A B = B := by rw [gd_bool']; simp
theorem gd_false' (A B : Prop) : gd (.bool false) false A B = A := by rw [gd_bool']; simp
theorem gd_dec {p : Prop} [Decidable p] {A B : Prop} (h1 : p → A) (h2 : ¬ p → B) : gd (.bool (decide p)) true A B := by
  rw [gd_bool]; exact ⟨fun h => h1 (by simpa using h), fun h => h2 (by simpa using h)⟩
theorem gd_dec' {p : Prop} [Decidable p] {A B : Prop} (h1 : ¬ p → A) (h2 : p → B) : gd (.bool (decide p)) false A B := by
  rw [gd_bool']; exact ⟨fun h => h1 (by simpa using h), fun h => h2 (by simpa using h)⟩
theorem gd_case {b : Bool} {A B : Prop} (h1 : b = true → A) (h2 : b = false → B) : gd (.bool b) true A B := by rw [gd_bool]; exact ⟨h1, h2⟩
theorem gd_case' {b : Bool} {A B : Prop} (h1 : b = false → A) (h2 : b = true → B) : gd (.bool b) false A B := by rw [gd_bool']; exact ⟨h1, h2⟩
theorem pick3_bool (b : Bool) (x y : Value) (K : Value → Prop) : pick3 (.bool b) x y K = K (bif b then x else y) := by
  apply propext
  unfold pick3
  constructor
  · rintro ⟨c, hc, h⟩; injection hc with hc; subst hc; exact h
  · intro h; exact ⟨b, rfl, h⟩
theorem join_in {n : Nat} {R : Car n} {B : Car n → Prop} (h : B R) : joinK n R B := joinK_iff.2 ⟨R, fun _ _ h => h, h⟩
theorem join_cut {n : Nat} {R : Car n} {B : Car n → Prop} (J : Car n) (hJ : ∀ vs w, app n J vs w → app n R vs w) (h : B J) : joinK n R B := joinK_iff.2 ⟨J, hJ, h⟩
theorem join0 {R : Car 0} {B : Car 0 → Prop} (J : World → Prop) (hJ : ∀ w, J w → (R : World → Prop) w) (h : B J) : joinK 0 R B :=
  joinK_iff.2 ⟨J, fun vs w h => by cases vs with | nil => exact hJ w h | cons _ _ => exact h.elim, h⟩
theorem join1 {R : Car 1} {B : Car 1 → Prop} (J : Value → World → Prop) (hJ : ∀ a w, J a w → (R : Value → World → Prop) a w) (h : B J) : joinK 1 R B :=
  joinK_iff.2 ⟨J, fun vs w h => by match vs, h with | [a], h => exact hJ a w h, h⟩
theorem join2 {R : Car 2} {B : Car 2 → Prop} (J : Value → Value → World → Prop) (hJ : ∀ a b w, J a b w → (R : Value → Value → World → Prop) a b w) (h : B J) : joinK 2 R B :=
  joinK_iff.2 ⟨J, fun vs w h => by match vs, h with | [a, b], h => exact hJ a b w h, h⟩
theorem join3 {R : Car 3} {B : Car 3 → Prop} (J : Value → Value → Value → World → Prop) (hJ : ∀ a b c w, J a b c w → (R : Value → Value → Value → World → Prop) a b c w) (h : B J) : joinK 3 R B :=
  joinK_iff.2 ⟨J, fun vs w h => by match vs, h with | [a, b, c], h => exact hJ a b c w h, h⟩
theorem join4 {R : Car 4} {B : Car 4 → Prop} (J : Value → Value → Value → Value → World → Prop) (hJ : ∀ a b c d w, J a b c d w → (R : Value → Value → Value → Value → World → Prop) a b c d w) (h : B J) : joinK 4 R B :=
  joinK_iff.2 ⟨J, fun vs w h => by match vs, h with | [a, b, c, d], h => exact hJ a b c d w h, h⟩
theorem loop0 {B : Car 0 → Car 0} (I : World → Prop) (μ : World → Nat) (h0 : I w) (hr : ∀ w, I w → (B (fun w' => I w' ∧ μ w' < μ w) : World → Prop) w) : loopK 0 [] w B :=
  loopK_iff.2 ⟨I, fun _ w => μ w, h0, fun vs w h => by match vs, h with | [], h => exact hr w h⟩
theorem loop1 {x : Value} {B : Car 1 → Car 1} (I : Value → World → Prop) (μ : Value → World → Nat) (h0 : I x w) (hr : ∀ a w, I a w → (B (fun a' w' => I a' w' ∧ μ a' w' < μ a w) : Value → World → Prop) a w) : loopK 1 [x] w B :=
  loopK_iff.2 ⟨I, fun vs w => match vs with | [a] => μ a w | _ => 0, h0, fun vs w h => by match vs, h with | [a], h => exact hr a w h⟩
theorem loop2 {x y : Value} {B : Car 2 → Car 2} (I : Value → Value → World → Prop) (μ : Value → Value → World → Nat) (h0 : I x y w)
    (hr : ∀ a b w, I a b w → (B (fun a' b' w' => I a' b' w' ∧ μ a' b' w' < μ a b w) : Value → Value → World → Prop) a b w) : loopK 2 [x, y] w B :=
  loopK_iff.2 ⟨I, fun vs w => match vs with | [a, b] => μ a b w | _ => 0, h0, fun vs w h => by match vs, h with | [a, b], h => exact hr a b w h⟩
theorem loop3 {x y z : Value} {B : Car 3 → Car 3} (I : Value → Value → Value → World → Prop) (μ : Value → Value → Value → World → Nat) (h0 : I x y z w)
    (hr : ∀ a b c w, I a b c w → (B (fun a' b' c' w' => I a' b' c' w' ∧ μ a' b' c' w' < μ a b c w) : Value → Value → Value → World → Prop) a b c w) : loopK 3 [x, y, z] w B :=
  loopK_iff.2 ⟨I, fun vs w => match vs with | [a, b, c] => μ a b c w | _ => 0, h0, fun vs w h => by match vs, h with | [a, b, c], h => exact hr a b c w h⟩
theorem loop4 {x y z u : Value} {B : Car 4 → Car 4} (I : Value → Value → Value → Value → World → Prop) (μ : Value → Value → Value → Value → World → Nat) (h0 : I x y z u w)
    (hr : ∀ a b c d w, I a b c d w → (B (fun a' b' c' d' w' => I a' b' c' d' w' ∧ μ a' b' c' d' w' < μ a b c d w) : Value → Value → Value → Value → World → Prop) a b c d w) : loopK 4 [x, y, z, u] w B :=
  loopK_iff.2 ⟨I, fun vs w => match vs with | [a, b, c, d] => μ a b c d w | _ => 0, h0, fun vs w h => by match vs, h with | [a, b, c, d], h => exact hr a b c d w h⟩
theorem ret_intro {f : FuncId} {a : Array Value} {R K : Value → World → Prop} (h : Ret P f a w R) (k : ∀ v w', R v w' → K v w') : Ret P f a w K := h.mono k

/-! ### Numbers that fit -/
theorem w_i64 (n : Int) (h1 : -9223372036854775808 ≤ n) (h2 : n ≤ 9223372036854775807) : IntKind.i64.wrap n = n := by rw [IntKind.wrap_i64]; omega
theorem w_u64 (n : Int) (h1 : 0 ≤ n) (h2 : n ≤ 18446744073709551615) : IntKind.u64.wrap n = n := by simp [IntKind.wrap, IntKind.bits, IntKind.signed]; omega
theorem w_u32 (n : Int) (h1 : 0 ≤ n) (h2 : n ≤ 4294967295) : IntKind.u32.wrap n = n := by rw [IntKind.wrap_u32]; omega
theorem w_u16 (n : Int) (h1 : 0 ≤ n) (h2 : n ≤ 65535) : IntKind.u16.wrap n = n := by simp [IntKind.wrap, IntKind.bits, IntKind.signed]; omega
theorem w_u8 (n : Int) (h1 : 0 ≤ n) (h2 : n ≤ 255) : IntKind.u8.wrap n = n := by rw [IntKind.wrap_u8]; omega
theorem w_i32 (n : Int) (h1 : -2147483648 ≤ n) (h2 : n ≤ 2147483647) : IntKind.i32.wrap n = n := by rw [IntKind.wrap_i32]; omega
theorem onOk_in {v : Value} {K : Value → World → Prop} (h : K v w) : onOk (.ok v w) K := h
theorem onOkU_in {K : World → Prop} (h : K w) : onOkU (.ok () w) K := h
theorem puR_in {v : Value} {K : Value → Prop} (h : K v) : puR (fun w => .ok v w) K := puR_iff.2 ⟨v, fun _ => rfl, h⟩
theorem val_run {s : Sem Value} {r : Result Value} {K : Value → World → Prop} (h : s.run P w = r) (k : onOk r K) : val P s w K := by unfold val; rw [h]; exact k
theorem unt_run {s : Sem Unit} {r : Result Unit} {K : World → Prop} (h : s.run P w = r) (k : onOkU r K) : unt P s w K := by unfold unt; rw [h]; exact k
theorem pu_run {s : Sem Value} {r : World → Result Value} {K : Value → Prop} (h : ∀ w, s.run P w = r w) (k : puR r K) : pu P s K := by unfold pu; rw [show (fun w => s.run P w) = r from funext h]; exact k
theorem gd_true_in {A B : Prop} (h : A) : gd (.bool true) true A B := by rw [gd_true]; exact h
theorem gd_false_in {A B : Prop} (h : B) : gd (.bool false) true A B := by rw [gd_false]; exact h
theorem gd_true_in' {A B : Prop} (h : B) : gd (.bool true) false A B := by rw [gd_true']; exact h
theorem gd_false_in' {A B : Prop} (h : A) : gd (.bool false) false A B := by rw [gd_false']; exact h

/-! ### Loads and stores, of one cell and of several -/
def ld1 (t : TypeId) (v : Value) : Sem Value := Instr.loadAt t v
def ldS (t : TypeId) (v : Value) : Sem Value := Instr.loadAt t v
def st1 (t : TypeId) (a v : Value) : Sem Unit := Instr.storeAt t a v
def stS (t : TypeId) (a v : Value) : Sem Unit := Instr.storeAt t a v
theorem ld1_eq (t : TypeId) (v : Value) : ld1 t v = Instr.loadAt t v := rfl
theorem ldS_eq (t : TypeId) (v : Value) : ldS t v = Instr.loadAt t v := rfl
theorem st1_eq (t : TypeId) (a v : Value) : st1 t a v = Instr.storeAt t a v := rfl
theorem stS_eq (t : TypeId) (a v : Value) : stS t a v = Instr.storeAt t a v := rfl
attribute [irreducible] ld1 ldS st1 stS
end Go.Proofs.Ytchmcjimnliodaa
end
section
set_option linter.unusedSimpArgs false
set_option linter.unusedVariables false
/- Whole arrays and structs, read out of memory and written into it. No program in sight. -/
namespace Go.Proofs.Ytchmcjimnliodaa
open Go.RowKit

/-- A struct's or an array's type, of so many cells. -/
def AggT (P : Program) (t : TypeId) (n : Nat) : Prop :=
  (∃ d, P.underlying t = some d ∧ (match d with | .struct _ | .array _ _ => true | _ => false) = true) ∧ (P.info? t).map (·.size) = some n
section
variable {P : Program} {w : World}
theorem run_loadVar_agg {t : TypeId} {n : Nat} (ht : AggT P t n) (b o : Nat) (xs : List Value) (hn : xs.length = n) (hl : Lies w (some ⟨b, o, none⟩) xs) :
    (loadVar t ⟨b, o, none⟩).run P w = .ok (.agg xs.toArray) w := by
  obtain ⟨⟨d, hu, hd⟩, hi⟩ := ht
  have hlo : (loadCells ⟨b, o, none⟩ xs.length).run P w = .ok xs.toArray w :=
    run_loadCells_list (P := P) w ⟨b, o, none⟩ xs (fun j v hv => by
      have hadd : (⟨b, o, none⟩ : Addr).add j = ⟨b, o + j, none⟩ := by unfold Addr.add; split <;> simp_all
      rw [hadd]; exact hl.at hv)
  cases hq : P.info? t with
  | none => simp [hq] at hi
  | some i =>
    have hs : i.size = n := by simpa [hq] using hi
    have hagg : (isAgg t).run P w = .ok true w := by
      unfold isAgg
      rw [Sem.run_bind, run_underlying hu w]
      cases d <;> simp_all
    rw [hn] at hlo
    simp [loadVar, Sem.run_bind, hagg, sizeOf, typeInfo, hq, hs, hlo]
theorem wp_load_agg {o : Oper} {ac : Act} {K : Act → World → Prop} {Q : Exit → Act → World → Prop} {t : TypeId} {x : Operand} (ho : o.op = .load t x) {n : Nat} (ht : AggT P t n)
    (b off : Nat) (xs : List Value) (hx : ac.eval x = .pointer (some ⟨b, off, none⟩)) (hn : xs.length = n) (hl : Lies w (some ⟨b, off, none⟩) xs)
    (h : K (ac.put o.dst (.agg xs.toArray)) w) : o.wp P ac w K Q := by
  unfold Oper.wp execOp
  simp only [ho, hx, Instr.loadAt, Instr.sureAddr, Sem.run_bind, Sem.run_pure, Result.andThen_ok, run_loadVar_agg ht b off xs hn hl]
  exact h
theorem wpList_load_agg {ops : Array Oper} {rest : List Oper} {o : Oper} {ac : Act} {Q : Exit → Act → World → Prop} (hgd : o.guard = none) {t : TypeId} {x : Operand} (ho : o.op = .load t x) {n : Nat} (ht : AggT P t n)
    (b off : Nat) (xs : List Value) (hx : ac.eval x = .pointer (some ⟨b, off, none⟩)) (hn : xs.length = n) (hl : Lies w (some ⟨b, off, none⟩) xs)
    (h : wpList P ops Q rest (ac.put o.dst (.agg xs.toArray)) w) : wpList P ops Q (o :: rest) ac w :=
  wpList_plain hgd fun _ hK => wp_load_agg ho ht b off xs hx hn hl (hK _ _ h)
theorem stop_load {ops : Array Oper} {rest : List Oper} {o : Oper} {ac : Act} {Q : Exit → Act → World → Prop} (t : TypeId) {x : Operand} (_ : o.op = .load t x)
    (h : Stop (wpList P ops Q (o :: rest) ac w)) : wpList P ops Q (o :: rest) ac w := h
theorem stop_store {ops : Array Oper} {rest : List Oper} {o : Oper} {ac : Act} {Q : Exit → Act → World → Prop} (t : TypeId) {x y : Operand} (_ : o.op = .store t x y)
    (h : Stop (wpList P ops Q (o :: rest) ac w)) : wpList P ops Q (o :: rest) ac w := h
theorem stop_load_step {ops : Array Oper} {o : Oper} {ac : Act} {K : Act → World → Prop} {Q : Exit → Act → World → Prop} {E : Prop} (hgd : o.guard = none) {t : TypeId} {x : Operand} (ho : o.op = .load t x) {n : Nat} (ht : AggT P t n)
    (b off : Nat) (xs : List Value) (hx : ac.eval x = .pointer (some ⟨b, off, none⟩)) (hn : xs.length = n) (hl : Lies w (some ⟨b, off, none⟩) xs)
    (h : K (ac.put o.dst (.agg xs.toArray)) w) : if Region.wanted o (yielded ops ac.tmps) = true then Oper.wp P o ac w K Q else E := by
  rw [if_pos (by simp [Region.wanted, hgd])]
  exact wp_load_agg ho ht b off xs hx hn hl h
/-- What a block holds behind a store of `xs` at `o`. -/
def putAt (cur : Array Value) (o : Nat) (xs : List Value) : Array Value := (cur.toList.take o ++ xs ++ cur.toList.drop (o + xs.length)).toArray
theorem putAt_size {cur : Array Value} {o : Nat} {xs : List Value} (h : o + xs.length ≤ cur.size) : (putAt cur o xs).size = cur.size := by
  simp [putAt]; omega
theorem run_storeVar_agg {t : TypeId} {n : Nat} (ht : AggT P t n) (b o : Nat) (E : TypeId) (cur : Array Value) (hb : Blk w b cur E) (xs : List Value) (hn : xs.length = n) (h1 : ∀ u ∈ xs, u.oneCell' = true) (hfit : o + n ≤ cur.size) :
    (storeVar t ⟨b, o, none⟩ (.agg xs.toArray)).run P w = .ok () (w.setRow b (putAt cur o xs)) := by
  obtain ⟨_, hi⟩ := ht
  have hst := run_storeCells_at P b o E xs 0 cur w hb (by rw [hn]; simpa using hfit) h1
  simp only [Nat.add_zero] at hst
  cases hq : P.info? t with
  | none => simp [hq] at hi
  | some i =>
    have hs : i.size = n := by simpa [hq] using hi
    simp [storeVar, Value.cells, Sem.run_bind, sizeOf, typeInfo, hq, hs, hn, hst, putAt]
theorem wp_store_agg {o : Oper} {ac : Act} {K : Act → World → Prop} {Q : Exit → Act → World → Prop} {t : TypeId} {x y : Operand} (ho : o.op = .store t x y) {n : Nat} (ht : AggT P t n)
    (b off : Nat) (E : TypeId) (cur : Array Value) (hb : Blk w b cur E) (xs : List Value) (hx : ac.eval x = .pointer (some ⟨b, off, none⟩)) (hy : ac.eval y = .agg xs.toArray) (hn : xs.length = n)
    (h1 : ∀ u ∈ xs, u.oneCell' = true) (hfit : off + n ≤ cur.size)
    (h : K (ac.put o.dst undef) (w.setRow b (putAt cur off xs))) : o.wp P ac w K Q := by
  unfold Oper.wp execOp
  simp only [ho, hx, hy, Instr.storeAt, Instr.sureAddr, Sem.run_bind, Sem.run_pure, Result.andThen_ok, run_storeVar_agg ht b off E cur hb xs hn h1 hfit]
  exact h
theorem wpList_store_agg {ops : Array Oper} {rest : List Oper} {o : Oper} {ac : Act} {Q : Exit → Act → World → Prop} (hgd : o.guard = none) {t : TypeId} {x y : Operand} (ho : o.op = .store t x y) {n : Nat} (ht : AggT P t n)
    (b off : Nat) (E : TypeId) (cur : Array Value) (hb : Blk w b cur E) (xs : List Value) (hx : ac.eval x = .pointer (some ⟨b, off, none⟩)) (hy : ac.eval y = .agg xs.toArray) (hn : xs.length = n)
    (h1 : ∀ u ∈ xs, u.oneCell' = true) (hfit : off + n ≤ cur.size)
    (h : wpList P ops Q rest (ac.put o.dst undef) (w.setRow b (putAt cur off xs))) : wpList P ops Q (o :: rest) ac w :=
  wpList_plain hgd fun _ hK => wp_store_agg ho ht b off E cur hb xs hx hy hn h1 hfit (hK _ _ h)
theorem Blk.setRow {b : Nat} {cur cur' : Array Value} {E : TypeId} (hb : Blk w b cur E) : Blk (w.setRow b cur') b cur' E := setRow_heap w b cur cur' E (0, 0) hb
theorem Blk.setRow_ne {b c : Nat} {cur cur' : Array Value} {E : TypeId} (hb : Blk w b cur E) (hn : b ≠ c) : Blk (w.setRow c cur') b cur E := (setRow_other w c b cur' hn).trans hb
theorem Only.setRow {S : Nat → Prop} {w0 : World} (h : Only S w0 w) {b : Nat} (hS : b < w0.heap.size → S b) (cur : Array Value) : Only S w0 (w.setRow b cur) :=
  ⟨h.os, h.tape, h.output, by simpa using h.size, fun k hk hn => (setRow_other w b k cur (fun e => by subst e; exact hn (hS hk))).trans (h.block k hk hn)⟩
theorem Lies.setRow {a : Option Addr} {xs : List Value} {b : Nat} (h : Lies w a xs) (hn : ablk a ≠ some b) (cur : Array Value) : Lies (w.setRow b cur) a xs :=
  h.keep fun k hk _ => setRow_other w b k cur (fun e => hn (by rw [hk, e]))
theorem Row.setRow_ne {e size : Nat} {a : Option Addr} {n cap : Nat} {xs : List Value} {b : Nat} (h : Row w e size a n cap xs) (hn : ablk a ≠ some b) (cur : Array Value) : Row (w.setRow b cur) e size a n cap xs :=
  h.keep fun k hk _ => setRow_other w b k cur (fun e => hn (by rw [hk, e]))
theorem take_put {α : Type} (L ys : List α) (a k n : Nat) (hy : ys.length = k) (h1 : a + k ≤ n) (h2 : n ≤ L.length) :
    (L.take a ++ ys ++ L.drop (a + k)).take n = (L.take n).take a ++ ys ++ (L.take n).drop (a + k) := by
  have e1 : (L.take a ++ ys).length = a + k := by simp [hy]; omega
  rw [List.take_append, e1, List.take_of_length_le (by omega), List.drop_take, List.take_take, Nat.min_eq_left (by omega)]
/-- A store of one element into a row of the call's own. -/
theorem Row.put {e size : Nat} {b n cap : Nat} {xs : List Value} (h : Row w e size (some ⟨b, 0, none⟩) n cap xs) :
    ∃ cur, Blk w b cur e ∧ cur.size = cap * size ∧ ∀ (i : Nat) (ys : List Value), ys.length = size → i < n → Row (w.setRow b (putAt cur (i * size) ys)) e size (some ⟨b, 0, none⟩) n cap (xs.take (i * size) ++ ys ++ xs.drop ((i + 1) * size)) := by
  obtain ⟨h1, h2, h3, h4⟩ := h
  rcases h4 with ⟨h4, _⟩ | ⟨g, cur, hg, hh, hs, ht⟩
  · cases h4
  · injection hg with hg; injection hg with hg; subst hg
    refine ⟨cur, hh, hs, fun i ys hy hi => ⟨?_, h2, h3, .inr ⟨b, _, rfl, setRow_heap w b cur _ e (0, 0) hh, ?_, ?_⟩⟩⟩
    · have : (i + 1) * size ≤ n * size := Nat.mul_le_mul_right _ hi
      rw [Nat.add_mul] at this
      simp only [List.length_append, List.length_take, List.length_drop, h1, hy, Nat.add_mul]
      omega
    · have : (i + 1) * size ≤ cap * size := Nat.mul_le_mul_right _ (by omega)
      rw [putAt_size (by rw [hy, hs, Nat.add_mul] at *; omega), hs]
    · have hle : (i + 1) * size ≤ n * size := Nat.mul_le_mul_right _ hi
      have hle2 : n * size ≤ cap * size := Nat.mul_le_mul_right _ h2
      rw [← ht]
      have hsz : cur.toList.length = cap * size := by simpa using hs
      simp only [putAt]
      rw [Nat.add_mul, Nat.one_mul] at hle ⊢
      rw [hy]
      exact take_put (cur.toList) ys (i * size) size (n * size) hy (by omega) (by omega)
end
end Go.Proofs.Ytchmcjimnliodaa
end
section
set_option linter.unusedSimpArgs false
set_option linter.unusedVariables false
/- Memory in a walk: what is known of blocks, in one word. No program in sight. -/
namespace Go.Proofs.Ytchmcjimnliodaa
open Go Go.RowKit

/-- A thing in memory: a block that is known whole; a row that may be appended to; whatever hangs on some blocks alone. -/
inductive It where
  | rows (e : TypeId) (size : Nat) (l : List (Option Addr × Nat × Nat × List Value))
  | blk (B : Nat) (cs : Array Value) (T : TypeId)
  | row (e : TypeId) (size : Nat) (a : Option Addr) (n cap : Nat) (xs : List Value)
  | gen (F : Nat → Prop) (φ : World → Prop) (st : ∀ w w' : World, (∀ k, F k → w'.heap[k]? = w.heap[k]?) → w.heap.size ≤ w'.heap.size → φ w → φ w')
def It.fp : It → Nat → Prop
  | .rows _ _ l => fun k => ∃ r ∈ l, ablk r.1 = some k
  | .blk B _ _ => fun k => k = B
  | .row _ _ a _ _ _ => fun k => ablk a = some k
  | .gen F _ _ => F
def It.ok : It → World → Prop
  | .rows e s l => fun w => ∀ r ∈ l, Row w e s r.1 r.2.1 r.2.2.1 r.2.2.2
  | .blk B cs T => fun w => Blk w B cs T
  | .row e s a n c xs => fun w => Row w e s a n c xs
  | .gen F φ _ => fun w => φ w ∧ ∀ k, F k → k < w.heap.size
theorem It.lt {i : It} {w : World} (h : i.ok w) {k : Nat} (hk : i.fp k) : k < w.heap.size := by
  cases i with
  | rows e s l => obtain ⟨r, hr, hk⟩ := hk; exact Row.lt (h r hr) k hk
  | blk B cs T => obtain rfl : k = B := hk; exact Blk.lt h
  | row e s a n c xs => exact Row.lt h k hk
  | gen F φ st => exact h.2 k hk
theorem It.keep {i : It} {w w' : World} (h : i.ok w) (hz : w.heap.size ≤ w'.heap.size) (hk : ∀ k, i.fp k → w'.heap[k]? = w.heap[k]?) : i.ok w' := by
  cases i with
  | rows e s l => exact fun r hr => Row.keep (h r hr) fun b hb _ => hk b ⟨r, hr, hb⟩
  | blk B cs T => exact (hk B rfl).trans h
  | row e s a n c xs => exact Row.keep h fun b hb _ => hk b hb
  | gen F φ st => exact ⟨st w w' hk hz h.1, fun k hf => Nat.lt_of_lt_of_le (h.2 k hf) hz⟩
theorem It.only {i : It} {w w' : World} {S : Nat → Prop} (h : i.ok w) (ho : Only S w w') (hn : ∀ k, i.fp k → ¬ S k) : i.ok w' :=
  i.keep h ho.size fun k hk => ho.block k (i.lt h hk) (hn k hk)
/-- From `w0` to `w` only blocks in `S` have changed; the things in `L` are there, are apart, and are new or in `S`. -/
structure Hp (S : Nat → Prop) (w0 w : World) (L : List It) : Prop where
  only : Only S w0 w
  ok : ∀ i ∈ L, i.ok w
  apart : L.Pairwise fun a b => ∀ k, a.fp k → ¬ b.fp k
  own : ∀ i ∈ L, ∀ k, i.fp k → w0.heap.size ≤ k ∨ S k
inductive At : List It → Nat → It → Prop
  | zero {i : It} {L : List It} : At (i :: L) 0 i
  | succ {x i : It} {L : List It} {j : Nat} (h : At L j i) : At (x :: L) (j + 1) i
theorem At.get {L : List It} {j : Nat} {i : It} (h : At L j i) : L[j]? = some i := by
  induction h with
  | zero => rfl
  | succ h ih => simpa using ih
theorem At.mem {L : List It} {j : Nat} {i : It} (h : At L j i) : i ∈ L := List.mem_of_getElem? h.get
section
variable {P : Program} {S : Nat → Prop} {w0 w w' : World} {L : List It}
theorem Hp.start (S : Nat → Prop) (w : World) : Hp S w w [] := ⟨Only.refl _ _, by simp, .nil, by simp⟩
theorem Hp.add (h : Hp S w0 w L) {i : It} (hi : i.ok w) (hS : ∀ k, i.fp k → w0.heap.size ≤ k ∨ S k) (hn : ∀ j ∈ L, ∀ k, i.fp k → ¬ j.fp k) : Hp S w0 w (i :: L) :=
  ⟨h.only, fun e he => by rcases List.mem_cons.1 he with rfl | he; exact hi; exact h.ok e he, .cons hn h.apart, fun e he => by rcases List.mem_cons.1 he with rfl | he; exact hS; exact h.own e he⟩
theorem Hp.pure (h : Hp S w0 w L) (hp : Pure w w') : Hp S w0 w' L :=
  ⟨h.only.trans hp (fun _ _ k => k.elim), fun e he => It.only (h.ok e he) hp (fun _ _ => id), h.apart, h.own⟩
/-- A thing that came in new. -/
theorem Hp.fresh (h : Hp S w0 w L) (hp : Pure w w') {i : It} (hi : i.ok w') (hf : ∀ k, i.fp k → w.heap.size ≤ k) : Hp S w0 w' (i :: L) :=
  (h.pure hp).add hi (fun k hk => .inl (Nat.le_trans h.only.size (hf k hk))) (fun j hj k hk hk' => by have := hf k hk; have := j.lt (h.ok j hj) hk'; omega)
theorem Hp.new (h : Hp S w0 w L) (cs : Array Value) (T : TypeId) : Hp S w0 (w.alloc (.cells cs T)) (.blk w.heap.size cs T :: L) :=
  h.fresh ((Only.refl _ _).alloc _) (i := .blk w.heap.size cs T) (Blk.new _ _ _) (fun k hk => Nat.le_of_eq hk.symm)
/-- A nil row. -/
theorem Hp.nil (h : Hp S w0 w L) (e : TypeId) (size : Nat) : Hp S w0 w (.row e size none 0 0 [] :: L) :=
  h.add (i := .row e size none 0 0 []) (Row.nil _ _ _) (fun _ hk => by cases hk) (fun _ _ _ hk => by cases hk)
theorem Hp.drew (h : Hp S w0 w L) : Hp S w0 w.drew L := h.pure (Only.refl _ _).drew
theorem Hp.drop (h : Hp S w0 w L) {L' : List It} (hs : L'.Sublist L) : Hp S w0 w L' := ⟨h.only, fun e he => h.ok e (hs.mem he), h.apart.sublist hs, fun e he => h.own e (hs.mem he)⟩
theorem Hp.tail {i : It} (h : Hp S w0 w (i :: L)) : Hp S w0 w L := h.drop (List.sublist_cons_self _ _)
theorem Hp.get (h : Hp S w0 w L) {j : Nat} {i : It} (hj : L[j]? = some i) : i.ok w := h.ok i (List.mem_of_getElem? hj)
/-- One thing turns into another one. -/
theorem Hp.upd (h : Hp S w0 w L) {j : Nat} {i : It} (hj : L[j]? = some i) {i' : It} (ho : Only i.fp w w') (hok : i'.ok w') (hfp : ∀ k, i'.fp k → i.fp k ∨ w.heap.size ≤ k) : Hp S w0 w' (L.set j i') := by
  have hm : i ∈ L := List.mem_of_getElem? hj
  have hlt : j < L.length := (List.getElem?_eq_some_iff.1 hj).1
  have hjj : L[j] = i := (List.getElem?_eq_some_iff.1 hj).2
  have hne : ∀ (m : Nat) (hl : m < L.length), m ≠ j → ∀ k, (L[m]).fp k → ¬ i.fp k := by
    intro m hl hmj k hk hk'
    rcases Nat.lt_or_gt_of_ne hmj with h1 | h1
    · have := List.pairwise_iff_getElem.1 h.apart m j hl hlt h1 k hk
      rw [hjj] at this; exact this hk'
    · have := List.pairwise_iff_getElem.1 h.apart j m hlt hl h1 k
      rw [hjj] at this; exact this hk' hk
  have hne' : ∀ (m : Nat) (hl : m < L.length), m ≠ j → ∀ k, (L[m]).fp k → ¬ i'.fp k := by
    intro m hl hmj k hk hk'
    rcases hfp k hk' with h1 | h1
    · exact hne m hl hmj k hk h1
    · have := (L[m]).lt (h.ok _ (List.getElem_mem hl)) hk; omega
  refine ⟨h.only.trans ho (fun k hk hi => (h.own _ hm k hi).resolve_left (by omega)), ?_, ?_, ?_⟩
  · intro e he
    obtain ⟨m, hl, rfl⟩ := List.mem_iff_getElem.1 he
    rw [List.getElem_set]
    split
    · exact hok
    · rename_i hmj
      have hl' : m < L.length := by simpa using hl
      exact It.only (h.ok _ (List.getElem_mem hl')) ho (fun k hk => hne m hl' (fun e => hmj e.symm) k hk)
  · rw [List.pairwise_iff_getElem]
    intro a b ha hb hab k
    have ha' : a < L.length := by simpa using ha
    have hb' : b < L.length := by simpa using hb
    rw [List.getElem_set, List.getElem_set]
    split <;> split
    · omega
    · intro h1 h2; exact hne' b hb' (by omega) k h2 h1
    · intro h1 h2; exact hne' a ha' (by omega) k h1 h2
    · exact List.pairwise_iff_getElem.1 h.apart a b ha' hb' hab k
  · intro e he k hk
    rcases List.mem_or_eq_of_mem_set he with he | rfl
    · exact h.own e he k hk
    · rcases hfp k hk with h1 | h1
      · exact h.own i hm k h1
      · exact .inl (Nat.le_trans h.only.size h1)
/-- The order is no matter. -/
theorem Hp.perm (h : Hp S w0 w L) {L' : List It} (hp : L'.Perm L) : Hp S w0 w L' :=
  ⟨h.only, fun i hi => h.ok i (hp.mem_iff.1 hi), (hp.symm.pairwise h.apart (fun hab k h1 h2 => hab k h2 h1)), fun i hi => h.own i (hp.mem_iff.1 hi)⟩
theorem Hp.base {S' : Nat → Prop} {v0 : World} (h : Hp S w0 w L) (ho : Only S' v0 w0) (hS : ∀ k, k < v0.heap.size → S k → S' k) : Hp S' v0 w L :=
  ⟨ho.trans h.only hS, h.ok, h.apart, fun i hi k hk => by
    rcases h.own i hi k hk with h1 | h1
    · exact .inl (Nat.le_trans ho.size h1)
    · by_cases hl : k < v0.heap.size
      · exact .inr (hS _ hl h1)
      · exact .inl (by omega)⟩
theorem Hp.lies (h : Hp S w0 w L) {a : Option Addr} {xs : List Value} (hl : Lies w0 a xs) (hn : ∀ b, ablk a = some b → ¬ S b) : Lies w a xs := hl.only h.only hn

/-! ### Steps -/
variable {K : Value → World → Prop}
theorem val_ok {s : Sem Value} {v : Value} {w1 : World} (h : s.run P w = .ok v w1) (k : K v w1) : val P s w K := by unfold val; rw [h]; exact k
theorem pu_ok {s : Sem Value} {K : Value → Prop} {v : Value} (h : ∀ w, s.run P w = .ok v w) (k : K v) : pu P s K := pu_iff.2 ⟨v, h, k⟩
theorem unt_ok {s : Sem Unit} {K : World → Prop} {w1 : World} (h : s.run P w = .ok () w1) (k : K w1) : unt P s w K := by unfold unt; rw [h]; exact k
theorem run_box (T : TypeId) (v : Value) (w : World) : (Instr.box T v).run P w = .ok (.pointer (some ⟨w.heap.size, 0, none⟩)) (w.alloc (.cells v.cells T)) := by
  simp [Instr.box, newVar, newRow]
theorem val_box (h : Hp S w0 w L) {T : TypeId} {v : Value} (k : ∀ (B : Nat) (w1 : World), w.heap.size = B → Pure w w1 → Hp S w0 w1 (.blk B v.cells T :: L) → K (.pointer (some ⟨B, 0, none⟩)) w1) : val P (Instr.box T v) w K :=
  val_ok (run_box T v w) (k _ _ rfl ((Only.refl _ _).alloc _) (h.new _ _))
theorem val_alloc (h : Hp S w0 w L) {T : TypeId} {z : Value} (hz : ∀ w, (zeroValue T).run P w = .ok z w) (k : ∀ (B : Nat) (w1 : World), w.heap.size = B → Pure w w1 → Hp S w0 w1 (.blk B z.cells T :: L) → K (.pointer (some ⟨B, 0, none⟩)) w1) :
    val P (Instr.alloc T true (.tuple #[])) w K :=
  val_ok (v := .pointer (some ⟨w.heap.size, 0, none⟩)) (w1 := w.alloc (.cells z.cells T)) (by simp [Instr.alloc, newVar, newRow, hz]) (k _ _ rfl ((Only.refl _ _).alloc _) (h.new _ _))
/-- A slice that is made of parts. -/
theorem val_bs (h : Hp S w0 w L) {s : Sem Value} {cs : Array Value} {T : TypeId} {n c : Nat} (hr : s.run P w = .ok (.slice (some ⟨w.heap.size, 0, none⟩) n c) (w.alloc (.cells cs T)))
    (k : ∀ (B : Nat) (w1 : World), w.heap.size = B → Pure w w1 → Hp S w0 w1 (.blk B cs T :: L) → K (.slice (some ⟨B, 0, none⟩) n c) w1) : val P s w K :=
  val_ok hr (k _ _ rfl ((Only.refl _ _).alloc _) (h.new _ _))
theorem onOk_bs (h : Hp S w0 w L) {cs : Array Value} {T : TypeId} {n c : Nat}
    (k : ∀ (B : Nat) (w1 : World), w.heap.size = B → Pure w w1 → Hp S w0 w1 (.blk B cs T :: L) → K (.slice (some ⟨B, 0, none⟩) n c) w1) : onOk (.ok (.slice (some ⟨w.heap.size, 0, none⟩) n c) (w.alloc (.cells cs T))) K :=
  k _ _ rfl ((Only.refl _ _).alloc _) (h.new _ _)
theorem run_load1 {ty : TypeId} (h1 : ∀ w, (isAgg ty).run P w = .ok false w) {a : Addr} {v : Value} (hc : w.cell? a = some v) : (Instr.loadAt ty (.pointer (some a))).run P w = .ok v w := by
  simp [Instr.loadAt, Instr.sureAddr, loadVar, h1, hc]
theorem Hp.cell (h : Hp S w0 w L) {B i : Nat} {cs : Array Value} {T : TypeId} {v : Value} (hm : It.blk B cs T ∈ L) (hv : cs.toList[i]? = some v) : w.cell? ⟨B, i, none⟩ = some v := Blk.cell (h.ok _ hm) (by simpa using hv)
theorem val_ld (h : Hp S w0 w L) {ty : TypeId} {B i : Nat} {cs : Array Value} {T : TypeId} {v : Value} (h1 : ∀ w, (isAgg ty).run P w = .ok false w) {q : Nat} (hm : At L q (It.blk B cs T)) (hv : cs.toList[i]? = some v) (k : K v w) :
    val P (ld1 ty (.pointer (some ⟨B, i, none⟩))) w K := ld1_eq .. ▸ val_ok (run_load1 h1 (h.cell hm.mem hv)) k
theorem rd_ld {K : Value → Prop} (h : Hp S w0 w L) {ty : TypeId} {B i : Nat} {cs : Array Value} {T : TypeId} {v : Value} (h1 : ∀ w, (isAgg ty).run P w = .ok false w) {q : Nat} (hm : At L q (It.blk B cs T)) (hv : cs.toList[i]? = some v) (k : K v) :
    rd P (ld1 ty (.pointer (some ⟨B, i, none⟩))) w K := ld1_eq .. ▸ rd_iff.2 ⟨v, run_load1 h1 (h.cell hm.mem hv), k⟩
theorem val_ldc {ty : TypeId} {a : Addr} {v : Value} (h1 : ∀ w, (isAgg ty).run P w = .ok false w) (hc : w.cell? a = some v) (k : K v w) : val P (ld1 ty (.pointer (some a))) w K := ld1_eq .. ▸ val_ok (run_load1 h1 hc) k
theorem rd_ldc {K : Value → Prop} {ty : TypeId} {a : Addr} {v : Value} (h1 : ∀ w, (isAgg ty).run P w = .ok false w) (hc : w.cell? a = some v) (k : K v) : rd P (ld1 ty (.pointer (some a))) w K := ld1_eq .. ▸ rd_iff.2 ⟨v, run_load1 h1 hc, k⟩
theorem run_ldA {ty : TypeId} {n : Nat} (ht : AggT P ty n) {b o : Nat} {xs : List Value} (hn : xs.length = n) (hl : Lies w (some ⟨b, o, none⟩) xs) : (Instr.loadAt ty (.pointer (some ⟨b, o, none⟩))).run P w = .ok (.agg xs.toArray) w := by
  simp [Instr.loadAt, Instr.sureAddr, run_loadVar_agg ht b o xs hn hl]
/-- A whole struct that is a block. -/
theorem val_ldB (h : Hp S w0 w L) {ty : TypeId} {B : Nat} {cs : Array Value} {T : TypeId} {q : Nat} (hm : At L q (It.blk B cs T)) (ht : AggT P ty cs.size) (k : K (.agg cs) w) :
    val P (ldS ty (.pointer (some ⟨B, 0, none⟩))) w K := ldS_eq .. ▸ val_ok (run_ldA ht (by simp) (Blk.lies (h.ok _ hm.mem))) k
theorem rd_ldB {K : Value → Prop} (h : Hp S w0 w L) {ty : TypeId} {B : Nat} {cs : Array Value} {T : TypeId} {q : Nat} (hm : At L q (It.blk B cs T)) (ht : AggT P ty cs.size) (k : K (.agg cs)) :
    rd P (ldS ty (.pointer (some ⟨B, 0, none⟩))) w K := ldS_eq .. ▸ rd_iff.2 ⟨_, run_ldA ht (by simp) (Blk.lies (h.ok _ hm.mem)), k⟩
theorem val_ldl {ty : TypeId} {n : Nat} (ht : AggT P ty n) {b o : Nat} {xs : List Value} (hn : xs.length = n) (hl : Lies w (some ⟨b, o, none⟩) xs) (k : K (.agg xs.toArray) w) :
    val P (ldS ty (.pointer (some ⟨b, o, none⟩))) w K := ldS_eq .. ▸ val_ok (run_ldA ht hn hl) k
theorem rd_ldl {K : Value → Prop} {ty : TypeId} {n : Nat} (ht : AggT P ty n) {b o : Nat} {xs : List Value} (hn : xs.length = n) (hl : Lies w (some ⟨b, o, none⟩) xs) (k : K (.agg xs.toArray)) :
    rd P (ldS ty (.pointer (some ⟨b, o, none⟩))) w K := ldS_eq .. ▸ rd_iff.2 ⟨_, run_ldA ht hn hl, k⟩
theorem unt_st {K : World → Prop} (h : Hp S w0 w L) {j : Nat} {ty : TypeId} {B i : Nat} {cs : Array Value} {T : TypeId} {v : Value} (hk' : At L j (.blk B cs T)) (hs : ∀ w, (sizeOf ty).run P w = .ok 1 w) (h1 : v.oneCell' = true) (hi : (cs.toList[i]?).isSome = true)
    (k : ∀ w1 : World, Only (fun x => x = B) w w1 → Hp S w0 w1 (L.set j (.blk B (cs.setIfInBounds i v) T)) → K w1) : unt P (st1 ty (.pointer (some ⟨B, i, none⟩)) v) w K := by
  rw [st1_eq]
  have hk := hk'.get
  have hb : Blk w B cs T := h.get hk
  obtain ⟨u, hu⟩ := Option.isSome_iff_exists.1 (show (cs[i]?).isSome = true by simpa using hi)
  have hcl : v.cells = #[v] := by cases v <;> first | rfl | cases h1
  have ho : Only (fun x => x = B) w (w.setCell ⟨B, i, none⟩ v) := Only.setCell (S := fun x => x = B) (Only.refl _ _) (fun _ => rfl) v
  refine unt_ok (w1 := w.setCell ⟨B, i, none⟩ v) ?_ (k _ ho (h.upd hk ho (i' := .blk B (cs.setIfInBounds i v) T) (hb.set i v) (fun k hk => .inl hk)))
  simp [Instr.storeAt, Instr.sureAddr, storeVar, hcl, hs, storeCells, run_store P w ⟨B, i, none⟩ v _ h1, hb.cell hu, hb.frozen i, Addr.add]
/-- A whole struct, into a block of its own. -/
theorem unt_stB {K : World → Prop} (h : Hp S w0 w L) {j : Nat} {ty : TypeId} {B : Nat} {cs xs : Array Value} {T : TypeId} (hk' : At L j (.blk B cs T)) (ht : AggT P ty xs.size) (hz : xs.size = cs.size) (h1 : (xs.toList.all (·.oneCell')) = true)
    (k : ∀ w1 : World, Only (fun x => x = B) w w1 → Hp S w0 w1 (L.set j (.blk B xs T)) → K w1) : unt P (stS ty (.pointer (some ⟨B, 0, none⟩)) (.agg xs)) w K := by
  rw [stS_eq]
  have hk := hk'.get
  have hb : Blk w B cs T := h.get hk
  have hp : putAt cs 0 xs.toList = xs := by
    unfold putAt
    have : List.drop (0 + xs.toList.length) cs.toList = [] := by simp [hz]
    rw [this]; simp
  have hr := run_storeVar_agg (w := w) ht B 0 T cs hb xs.toList (by simp) (fun u hu => List.all_eq_true.1 h1 u hu) (by omega)
  rw [hp] at hr
  have ho : Only (fun x => x = B) w (w.setRow B xs) := Only.setRow (S := fun x => x = B) (Only.refl _ _) (fun _ => rfl) _
  refine unt_ok (w1 := w.setRow B xs) ?_ (k _ ho (h.upd hk ho (i' := .blk B xs T) hb.setRow (fun k hk => .inl hk)))
  simpa [Instr.storeAt, Instr.sureAddr] using hr
/-- append onto a row. -/
theorem val_app (h : Hp S w0 w L) {j : Nat} {t ty e : TypeId} {size bytes : Nat} (he : ElemT P t e size bytes) {a : Option Addr} {n cap : Nat} {xs : List Value} (hk' : At L j (.row e size a n cap xs))
    {b : Option Addr} {m c : Nat} {ys : List Value} (hl : Lies w b ys) (hm : ys.length = m * size) (h1 : ∀ u ∈ ys, u.oneCell' = true) (h63 : n + m ≤ maxLen) (hbytes : (n + m) * bytes ≤ 140737488355328)
    (k : ∀ a' cap' w1, Only (fun k => ablk a = some k) w w1 → (ablk a' = ablk a ∨ ablk a' = some w.heap.size) → Hp S w0 w1 (L.set j (.row e size a' (n + m) cap' (xs ++ ys))) → K (.slice a' (n + m) cap') w1) :
    val P (Builtin.append_ #[t, t] ty #[.slice a n cap, .slice b m c]) w K := by
  have hk := hk'.get
  obtain ⟨ht, h0, i, z, hi, hz, hsize, hby, hzs⟩ := he
  obtain ⟨a', cap', w1, hr, hrow, ho, hat⟩ := run_append_row (P := P) w t t ty e i z size bytes ht hi hz hsize hby hzs h0 a n cap xs (h.get hk) _ m ys (src_lies (c := c) ht h0 hm hl h1) h63 hbytes
  exact val_ok hr (k a' cap' w1 ho hat (h.upd hk ho (i' := .row e size a' (n + m) cap' (xs ++ ys)) hrow (fun q hq => by
    rcases hat with h2 | h2
    · exact .inl (show ablk a = some q from h2 ▸ hq)
    · right; have : some q = some w.heap.size := hq.symm.trans h2; injection this with this; omega)))
theorem val_appB (h : Hp S w0 w L) {j : Nat} {t ty e : TypeId} {size bytes : Nat} (he : ElemT P t e size bytes) {a : Option Addr} {n cap : Nat} {xs : List Value} (hk' : At L j (.row e size a n cap xs))
    {B m c : Nat} {cs : Array Value} {T : TypeId} {q : Nat} (hs : At L q (It.blk B cs T)) (hm : cs.size = m * size) (h1 : (cs.toList.all (·.oneCell')) = true) (h63 : n + m ≤ maxLen) (hbytes : (n + m) * bytes ≤ 140737488355328)
    (k : ∀ a' cap' w1, Only (fun k => ablk a = some k) w w1 → (ablk a' = ablk a ∨ ablk a' = some w.heap.size) → Hp S w0 w1 (L.set j (.row e size a' (n + m) cap' (xs ++ cs.toList))) → K (.slice a' (n + m) cap') w1) :
    val P (Builtin.append_ #[t, t] ty #[.slice a n cap, .slice (some ⟨B, 0, none⟩) m c]) w K :=
  val_app h he hk' (Blk.lies (h.ok _ hs.mem)) (by simpa using hm) (fun u hu => List.all_eq_true.1 h1 u hu) h63 hbytes k
theorem val_appR (h : Hp S w0 w L) {j : Nat} {t ty e : TypeId} {size bytes : Nat} (he : ElemT P t e size bytes) {a : Option Addr} {n cap : Nat} {xs : List Value} (hk' : At L j (.row e size a n cap xs))
    {b : Option Addr} {m c c' : Nat} {e' : TypeId} {ys : List Value} {q : Nat} (hs : At L q (It.row e' size b m c' ys)) (h1 : ∀ u ∈ ys, u.oneCell' = true) (h63 : n + m ≤ maxLen) (hbytes : (n + m) * bytes ≤ 140737488355328)
    (k : ∀ a' cap' w1, Only (fun k => ablk a = some k) w w1 → (ablk a' = ablk a ∨ ablk a' = some w.heap.size) → Hp S w0 w1 (L.set j (.row e size a' (n + m) cap' (xs ++ ys))) → K (.slice a' (n + m) cap') w1) :
    val P (Builtin.append_ #[t, t] ty #[.slice a n cap, .slice b m c]) w K :=
  have hr : Row w e' size b m c' ys := h.ok _ hs.mem
  val_app h he hk' hr.lies hr.len h1 h63 hbytes k
/-- A block of the call's own, taken for a row. -/
theorem Hp.asRow (h : Hp S w0 w L) {j : Nat} {B : Nat} {cs : Array Value} {e : TypeId} (hk' : At L j (.blk B cs e)) (size n : Nat) (hs : cs.size = n * size) (hn : n ≤ maxLen) : Hp S w0 w (L.set j (.row e size (some ⟨B, 0, none⟩) n n cs.toList)) :=
  h.upd hk'.get (Only.refl _ _) (i' := .row e size (some ⟨B, 0, none⟩) n n cs.toList) (Row.of_blk (h.get hk'.get) hs hn) (fun k hk => .inl (show k = B from (Option.some.inj hk).symm))

/-! ### Regions that draw -/
theorem drw_in {B : (Nat → World → Prop) → World → Prop} (h : Hp S w0 w L) (k : ∀ w1, Pure w w1 → Hp S w0 w1 L → B (atW w1) w1) : drw w B := drw_at (k _ (Only.refl _ _).drew h.drew)
theorem tk_at_in {s : Sem Value} {K : Value → Prop} (h : rd P s w K) : tk P (atW w) 0 s K := by rw [tk_at]; exact h
/-- Nothing that was there changes. -/
def pT (w : World) : Nat → World → Prop := fun _ w' => Pure w w'
theorem drw_pure {B : (Nat → World → Prop) → World → Prop} (h : Hp S w0 w L) (k : ∀ w1, Pure w w1 → Hp S w0 w1 L → B (pT w1) w1) : drw w B := drw_iff.2 ⟨pT w.drew, Only.refl _ _, k _ (Only.refl _ _).drew h.drew⟩
theorem ph_pure {X : Prop} {p : Nat} (hp : Pure w w') (h : X) : ph (pT w) p w' X := ph_iff.2 ⟨hp, h⟩
theorem tk_run {s : Sem Value} {T : Nat → World → Prop} {hi : Nat} {r : World → Result Value} {K : Value → Prop} (h : ∀ w, s.run P w = r w) (k : puR r K) : tk P T hi s K := by
  obtain ⟨v, hv, hk⟩ := puR_iff.1 k
  exact tk_iff.2 ⟨v, fun p w' _ _ => (h w').trans (hv w'), hk⟩
theorem tk_pld {K : Value → Prop} (h : Hp S w0 w L) {hi : Nat} {ty : TypeId} {B i : Nat} {cs : Array Value} {T : TypeId} {v : Value} (h1 : ∀ w, (isAgg ty).run P w = .ok false w) {q : Nat} (hm : At L q (It.blk B cs T)) (hv : cs.toList[i]? = some v) (k : K v) :
    tk P (pT w) hi (ld1 ty (.pointer (some ⟨B, i, none⟩))) K := tk_iff.2 ⟨v, fun _ w' _ hT => ld1_eq .. ▸ run_load1 h1 ((h.pure hT).cell hm.mem hv), k⟩
theorem tk_pldB {K : Value → Prop} (h : Hp S w0 w L) {hi : Nat} {ty : TypeId} {B : Nat} {cs : Array Value} {T : TypeId} {q : Nat} (hm : At L q (It.blk B cs T)) (ht : AggT P ty cs.size) (k : K (.agg cs)) :
    tk P (pT w) hi (ldS ty (.pointer (some ⟨B, 0, none⟩))) K := tk_iff.2 ⟨_, fun _ w' _ hT => ldS_eq .. ▸ run_ldA ht (by simp) (Blk.lies ((h.pure hT).ok _ hm.mem)), k⟩
theorem tk_pll {K : Value → Prop} {hi : Nat} {ty : TypeId} {n : Nat} (ht : AggT P ty n) {b o : Nat} {xs : List Value} (hn : xs.length = n) (hl : Lies w (some ⟨b, o, none⟩) xs) (k : K (.agg xs.toArray)) :
    tk P (pT w) hi (ldS ty (.pointer (some ⟨b, o, none⟩))) K := tk_iff.2 ⟨_, fun _ w' _ hT => ldS_eq .. ▸ run_ldA ht hn (hl.pure hT), k⟩
theorem tk_plc {K : Value → Prop} {hi : Nat} {ty : TypeId} {a : Addr} {v : Value} (h1 : ∀ w, (isAgg ty).run P w = .ok false w) (hc : w.cell? a = some v) (k : K v) :
    tk P (pT w) hi (ld1 ty (.pointer (some a))) K := tk_iff.2 ⟨_, fun _ w' _ hT => ld1_eq .. ▸ run_load1 h1 (hT.cell hc id), k⟩
/-- One block stays as it is. -/
def kT (B : Nat) (cs : Array Value) (T : TypeId) : Nat → World → Prop := fun _ w' => Blk w' B cs T
theorem drw_k {Bd : (Nat → World → Prop) → World → Prop} (h : Hp S w0 w L) {B : Nat} {cs : Array Value} {T : TypeId} {q : Nat} (hm : At L q (.blk B cs T)) (k : ∀ w1, Pure w w1 → Hp S w0 w1 L → Bd (kT B cs T) w1) : drw w Bd :=
  drw_iff.2 ⟨kT B cs T, h.drew.ok _ hm.mem, k _ (Only.refl _ _).drew h.drew⟩
theorem tk_k {K : Value → Prop} {hi : Nat} {ty : TypeId} {B i : Nat} {cs : Array Value} {T : TypeId} {v : Value} (h1 : ∀ w, (isAgg ty).run P w = .ok false w) (hv : cs.toList[i]? = some v) (k : K v) : tk P (kT B cs T) hi (ld1 ty (.pointer (some ⟨B, i, none⟩))) K :=
  tk_iff.2 ⟨v, fun _ w' _ hT => ld1_eq .. ▸ run_load1 h1 (Blk.cell hT (by simpa using hv)), k⟩
theorem ph_k {X : Prop} {p : Nat} (h : Hp S w0 w L) {B : Nat} {cs : Array Value} {T : TypeId} {q : Nat} (hm : At L q (.blk B cs T)) (k : X) : ph (kT B cs T) p w X := ph_iff.2 ⟨h.ok _ hm.mem, k⟩
end
def aggB (P : Program) (t : TypeId) (n : Nat) : Bool :=
  (match P.underlying t with
   | some (.struct _) => true
   | some (.array _ _) => true
   | _ => false) && (match P.info? t with | some i => Nat.beq i.size n | none => false)
theorem aggT {P : Program} {t : TypeId} {n : Nat} (h : aggB P t n = true) : AggT P t n := by
  unfold aggB at h
  rw [Bool.and_eq_true] at h
  obtain ⟨h1, h2⟩ := h
  refine ⟨?_, ?_⟩
  · cases hu : P.underlying t with
    | none => rw [hu] at h1; cases h1
    | some d => rw [hu] at h1; exact ⟨d, rfl, by cases d <;> first | rfl | cases h1⟩
  · cases hi : P.info? t with
    | none => rw [hi] at h2; cases h2
    | some i => rw [hi] at h2; rw [Option.map_some, beq_iff'.1 h2]
theorem val_at_bs {P : Program} {t : TypeId} {n : Nat} {ps : Array (Nat × Value)} {w : World} {K : Value → World → Prop} (h : val P (Instr.buildSlice t n ps) w K) : val P (Instr.buildSlice t n ps) w K := h
end Go.Proofs.Ytchmcjimnliodaa
end
section
set_option linter.unusedSimpArgs false
set_option linter.unusedVariables false
/- Ranges over iterators, in a walk with things in memory. No program in sight. -/
namespace Go.Proofs.Ytchmcjimnliodaa
open Go Go.RowKit

/-- What is no cells in a thing lies below. -/
def It.low (base : Nat) : It → Prop
  | .gen F _ _ => ∀ k, F k → k < base
  | _ => True
/-- The mark of a range that is over. -/
def dfr (D : Nat) : It := .gen (fun k => k = D) (fun w => w.heap[D]? = some (.deferred (some []))) (fun _ _ h _ k => (h D rfl).trans k)
section
variable {P : Program} {S : Nat → Prop} {w0 w w' : World} {L : List It}
theorem It.cells {i : It} {W : World} {base k : Nat} (h : i.ok W) (hl : i.low base) (hk : i.fp k) : k < base ∨ ∃ o, W.heap[k]? = some o ∧ o.isCells = true := by
  cases i with
  | rows e s l =>
    obtain ⟨r, hr, hk⟩ := hk
    rcases (h r hr).2.2.2 with ⟨h0, _⟩ | ⟨g, cur, h0, hg, _⟩
    · rw [h0] at hk; cases hk
    · rw [h0] at hk
      have : g = k := Option.some.inj hk
      subst this; exact .inr ⟨_, hg, rfl⟩
  | blk B cs T => obtain rfl : k = B := hk; exact .inr ⟨_, h, rfl⟩
  | row e s a n c xs =>
    rcases h.2.2.2 with ⟨rfl, _⟩ | ⟨g, cur, rfl, hg, _⟩
    · cases hk
    · have : g = k := Option.some.inj hk
      subst this; exact .inr ⟨_, hg, rfl⟩
  | gen F φ st => exact .inl (hl k hk)
theorem Hp.grown {W W' : World} {row : Option Nat} {base : Nat} (h : Hp S w0 W L) (hg : W.grownBy W' row) (hr : ∀ r, row = some r → base ≤ r ∧ ∃ o : Obj, W.heap[r]? = some o ∧ o.isCells = false) (hb : w0.heap.size ≤ base) (hl : ∀ i ∈ L, i.low base) : Hp S w0 W' L :=
  ⟨h.only.far hg (fun r e => Nat.le_trans hb (hr r e).1), fun i hi => It.keep (h.ok i hi) hg.size (fun k hk => hg.block k (i.lt (h.ok i hi) hk) (fun e => by
      obtain ⟨h1, o, ho, hc⟩ := hr k e.symm
      rcases i.cells (h.ok i hi) (hl i hi) hk with h2 | ⟨o', ho', hc'⟩
      · omega
      · rw [ho] at ho'; cases ho'; rw [hc] at hc'; cases hc')), h.apart, h.own⟩
/-- What was made on the way from `w`. -/
theorem Hp.join {W W' : World} {L2 : List It} (h : Hp S w0 W L) (k : Hp (fun _ => False) W W' L2) : Hp S w0 W' (L2 ++ L) := by
  have h' := h.pure k.only
  refine ⟨h'.only, fun i hi => (List.mem_append.1 hi).elim (k.ok i) (h'.ok i), List.pairwise_append.2 ⟨k.apart, h.apart, fun a ha b hb q hq hq' => ?_⟩, fun i hi q hq => ?_⟩
  · have h1 := (k.own a ha q hq).resolve_right id
    have h2 := b.lt (h.ok b hb) hq'
    omega
  · rcases List.mem_append.1 hi with hi | hi
    · exact .inl (Nat.le_trans h.only.size ((k.own i hi q hq).resolve_right id))
    · exact h.own i hi q hq
theorem Hp.row (h : Hp S w0 w L) {e : TypeId} {size n cap : Nat} {a : Option Addr} {xs : List Value} {q : Nat} (hm : At L q (.row e size a n cap xs)) : Row w e size a n cap xs := h.ok _ hm.mem
theorem Hp.blk (h : Hp S w0 w L) {B : Nat} {cs : Array Value} {T : TypeId} {q : Nat} (hm : At L q (.blk B cs T)) : Blk w B cs T := h.ok _ hm.mem
theorem Hp.rowcell (h : Hp S w0 w L) {e : TypeId} {size b n cap j : Nat} {xs : List Value} {v : Value} {q : Nat} (hm : At L q (.row e size (some ⟨b, 0, none⟩) n cap xs)) (hv : xs[j]? = some v) : w.cell? ⟨b, j, none⟩ = some v := by
  have := (Row.lies (show Row w e size (some ⟨b, 0, none⟩) n cap xs from h.ok _ hm.mem)).at hv
  simpa using this
theorem val_ldr {K : Value → World → Prop} (h : Hp S w0 w L) {ty : TypeId} {e : TypeId} {size b n cap j : Nat} {xs : List Value} {v : Value} (h1 : ∀ w, (isAgg ty).run P w = .ok false w) {q : Nat} (hm : At L q (.row e size (some ⟨b, 0, none⟩) n cap xs)) (hv : xs[j]? = some v) (k : K v w) :
    val P (ld1 ty (.pointer (some ⟨b, j, none⟩))) w K := val_ldc h1 (h.rowcell hm hv) k
theorem rd_ldr {K : Value → Prop} (h : Hp S w0 w L) {ty : TypeId} {e : TypeId} {size b n cap j : Nat} {xs : List Value} {v : Value} (h1 : ∀ w, (isAgg ty).run P w = .ok false w) {q : Nat} (hm : At L q (.row e size (some ⟨b, 0, none⟩) n cap xs)) (hv : xs[j]? = some v) (k : K v) :
    rd P (ld1 ty (.pointer (some ⟨b, j, none⟩))) w K := rd_ldc h1 (h.rowcell hm hv) k
theorem Hp.below (h : Hp S w0 w L) : ∀ j ∈ L, ∀ k, j.fp k → k < w.heap.size := fun j hj _ hk => j.lt (h.ok j hj) hk
/-- A thing made behind `base` is apart from what lies where `L0` lay. -/
theorem Hp.addIn (h : Hp S w0 w L) {base : Nat} {L0 : List It} (hb : ∀ j ∈ L0, ∀ k, j.fp k → k < base) (he : L.map It.fp = L0.map It.fp) (hz : w0.heap.size ≤ base) {i : It} (hi : i.ok w) (hf : ∀ k, i.fp k → base ≤ k) : Hp S w0 w (i :: L) := by
  refine h.add hi (fun k hk => .inl (Nat.le_trans hz (hf k hk))) (fun j hj k hk hk' => ?_)
  have hm : j.fp ∈ L0.map It.fp := he ▸ List.mem_map_of_mem hj
  obtain ⟨j0, hj0, e⟩ := List.mem_map.1 hm
  have h1 := hb j0 hj0 k (e ▸ hk')
  have h2 := hf k hk
  omega
theorem Hp.pureFrom (h : Hp (fun _ => False) w0 w L) : Pure w0 w := h.only
theorem Hp.front {i : It} {L1 L2 : List It} (h : Hp S w0 w (L1 ++ i :: L2)) : Hp S w0 w (i :: (L1 ++ L2)) := h.perm List.perm_middle.symm
/-- The blocks that a round may change. -/
def rS (S : Nat → Prop) (w0 : World) (base : Nat) (T : Nat → Prop) (W : World) : Nat → Prop := fun k => (w0.heap.size ≤ k ∨ S k) ∧ ¬ T k ∧ ∀ o, W.heap[k]? = some o → base ≤ k → o.isCells = true
theorem Hp.round {W : World} {i : It} {base : Nat} (h : Hp S w0 W (i :: L)) (hl : ∀ j ∈ L, j.low base) : Hp (rS S w0 base i.fp W) W W L := by
  refine ⟨Only.refl _ _, fun j hj => h.ok j (List.mem_cons_of_mem _ hj), (List.pairwise_cons.1 h.apart).2, fun j hj k hk => .inr ⟨h.own j (List.mem_cons_of_mem _ hj) k hk, fun hi => (List.pairwise_cons.1 h.apart).1 j hj k hi hk, fun o ho hb => ?_⟩⟩
  rcases j.cells (h.ok j (List.mem_cons_of_mem _ hj)) (hl j hj) hk with h2 | ⟨o', ho', hc'⟩
  · omega
  · rw [ho] at ho'; cases ho'; exact hc'
theorem Hp.back {W W' : World} {i : It} {base : Nat} {L' : List It} (h : Hp S w0 W (i :: L)) (k : Hp (rS S w0 base i.fp W) W W' L') : Hp S w0 W' (i :: L') := by
  have hi := h.ok i (List.mem_cons_self ..)
  refine ⟨h.only.trans k.only (fun q hq hr => hr.1.resolve_left (by omega)), fun j hj => ?_, .cons (fun j hj q hq hq' => ?_) k.apart, fun j hj q hq => ?_⟩
  · rcases List.mem_cons.1 hj with rfl | hj
    · exact It.only hi k.only (fun q hq hr => hr.2.1 hq)
    · exact k.ok j hj
  · rcases k.own j hj q hq' with h1 | h1
    · have := i.lt hi hq; omega
    · exact h1.2.1 hq
  · rcases List.mem_cons.1 hj with rfl | hj
    · exact h.own _ (List.mem_cons_self ..) q hq
    · rcases k.own j hj q hq with h1 | h1
      · exact .inl (Nat.le_trans h.only.size h1)
      · exact h1.1
theorem Hp.keeps {W W' : World} {T : Nat → Prop} {base : Nat} {L' : List It} (k : Hp (rS S w0 base T W) W W' L') : KeepsFrom base W W' :=
  ⟨k.only.size, fun q o hq ho hc => (k.only.block q (Array.getElem?_eq_some_iff.1 ho).1 (fun hr => by have := hr.2.2 o ho hq; rw [hc] at this; cases this)).trans ho⟩
theorem Hp.keepT {Wb W W' : World} {T : Nat → Prop} {base : Nat} {L' : List It} (k : Hp (rS S w0 base T W) W W' L') (hz : Wb.heap.size ≤ W.heap.size) (hT : ∀ q, T q → W.heap[q]? = Wb.heap[q]?) (hlt : ∀ q, T q → q < W.heap.size) : KeepT T Wb W' :=
  ⟨Nat.le_trans hz k.only.size, fun q hq => (k.only.block q (hlt q hq) (fun hr => hr.2.1 hq)).trans (hT q hq)⟩
theorem asn_in {W W' : World} {base : Nat} {X : World → Prop} {L2 : List It} (h : Hp S w0 W L) (k : Hp (fun _ => False) W W' L2) (hb : w0.heap.size ≤ base) (hl : ∀ i ∈ L2 ++ L, i.low base)
    (hx : ∀ W2 : World, Hp S w0 W2 (L2 ++ L) → W.heap.size ≤ W2.heap.size → (∀ q, q < base → q < W.heap.size → W2.heap[q]? = W.heap[q]?) → X W2) : asn base W W' X := by
  refine asn_iff.2 ⟨k.only, fun l o o' hlb ho => ?_⟩
  have hj := h.join k
  refine hx _ (hj.grown (grownBy_putObj' W' l (.loop o')) (fun r e => by cases e; exact ⟨hlb, _, ho, rfl⟩) hb hl) (by simpa using k.only.size) (fun q hq hqw => ?_)
  rw [World.putObj_heap_other (by omega)]
  exact k.only.block q hqw id
theorem SqAt.weak {α : Type} {n : Nat} {gf : Nat} {lb : Array Value} {encs : α → Array Value} {T : Nat → Prop} {Pin Pin' : List α → α → World → Prop} {Sx Sp : List α → Prop} {W : World} (h : SqAt n P gf lb encs T Pin Sx Sp W) (hp : ∀ pre x W, Pin pre x W → Pin' pre x W) :
    SqAt n P gf lb encs T Pin' Sx Sp W := fun l J Jx hJ hJx hY h0 => h l J Jx hJ hJx (fun pre x W1 hj hpin => hY pre x W1 hj (hp _ _ _ hpin)) h0
def rI {α : Type} (S : Nat → Prop) (w0 : World) (base : Nat) (i : It) (J : List α → List It → Prop) (xs : List α) (W : World) : Prop := ∃ L, J xs L ∧ Hp S w0 W (i :: L) ∧ base ≤ W.heap.size
def rX {α : Type} (S : Nat → Prop) (w0 : World) (i : It) (Jx : Exit → List α → List It → Prop) (e : Exit) (xs : List α) (W : World) : Prop := ∃ L, Jx e xs L ∧ Hp S w0 W (i :: L)
theorem round_normal {α : Type} {i : It} {base : Nat} {J : List α → List It → Prop} {Jx : Exit → List α → List It → Prop} {xs : List α} {Wb W2 W3 : World} {L' L3 : List It} (h : Hp S w0 W2 (i :: L)) (k : Hp (rS S w0 base i.fp W2) W2 W3 L')
    (hz : Wb.heap.size ≤ W2.heap.size) (hb : base ≤ Wb.heap.size) (hT : ∀ q, i.fp q → W2.heap[q]? = Wb.heap[q]?) (hs : L3.Sublist L') (hj : J xs L3) : rPost base i.fp (rI S w0 base i J) (rX S w0 i Jx) xs Wb W2 .normal W3 := by
  refine ⟨k.keeps, k.keepT hz hT (fun q hq => i.lt (h.ok i (List.mem_cons_self ..)) hq), L3, hj, (h.back k).drop (.cons_cons _ hs), ?_⟩
  have := k.only.size; omega
theorem round_ret {α : Type} {i : It} {base : Nat} {J : List α → List It → Prop} {Jx : Exit → List α → List It → Prop} {xs : List α} {Wb W2 W3 : World} {L' L3 : List It} (h : Hp S w0 W2 (i :: L)) (k : Hp (rS S w0 base i.fp W2) W2 W3 L')
    (hs : L3.Sublist L') (hj : Jx .ret xs L3) : rPost base i.fp (rI S w0 base i J) (rX S w0 i Jx) xs Wb W2 .ret W3 := ⟨k.keeps, L3, hj, (h.back k).drop (.cons_cons _ hs)⟩
theorem round_exit {α : Type} {i : It} {base : Nat} {J : List α → List It → Prop} {Jx : Exit → List α → List It → Prop} {xs : List α} {Wb W2 W3 : World} {L' L3 : List It} {n : Nat} (h : Hp S w0 W2 (i :: L)) (k : Hp (rS S w0 base i.fp W2) W2 W3 L')
    (hs : L3.Sublist L') (hj : Jx (.exit n) xs L3) : rPost base i.fp (rI S w0 base i J) (rX S w0 i Jx) xs Wb W2 (.exit n) W3 := ⟨k.keeps, L3, hj, (h.back k).drop (.cons_cons _ hs)⟩
/-- A RANGE OVER AN ITERATOR, with things in memory: `i` is the iterator's own. -/
theorem rng_in {g : Value} {np : Nat} {B : (World → World → Exit → World → Prop) → Car np} {An : Nat → World → Prop} {Lx : List (Xt × (Nat → World → Prop))} {i : It} (H : Hp S w0 w (i :: L)) {α : Type} {gf : Nat} {lb : Array Value} (hg : g = .func (.func gf) #[] lb) (eg : Enters P gf)
    (encs : α → List Value) (Pin : List α → α → World → Prop) (Sx Sp : List α → Prop) (hps : ∀ x, (encs x).length = np)
    (hseq : ∀ W, i.ok W → w.heap.size ≤ W.heap.size → SqAt 0 P gf lb (fun x => (encs x).toArray) i.fp Pin Sx Sp W)
    (J : List α → List It → Prop) (Jx : Exit → List α → List It → Prop) (h0 : J [] L) (hJ : ∀ pre L, J pre L → ∀ j ∈ L, j.low w.heap.size) (hJx : ∀ e pre L, Jx e pre L → ∀ j ∈ L, j.low w.heap.size)
    (hbody : ∀ pre x W L, J pre L → Hp S w0 W (i :: L) → w.heap.size ≤ W.heap.size → Pin pre x W → app np (B (rPost w.heap.size i.fp (rI S w0 w.heap.size i J) (rX S w0 i Jx) (pre ++ [x]))) (encs x) W)
    (hdone : ∀ (D : Nat) (xs : List α) (W : World) (L : List It), Sx xs → J xs L → Hp S w0 W (dfr D :: i :: L) → w.heap.size ≤ D → An D W)
    (hstop : ∀ (D : Nat) (e : Exit) (pre : List α) (W : World) (L : List It), Sp pre → Jx e pre L → Hp S w0 W (dfr D :: i :: L) → w.heap.size ≤ D → pickX Lx e D W) : Rng P g np w B An Lx := by
  have hi : i.ok w := H.ok i (List.mem_cons_self ..)
  have hz : w0.heap.size ≤ w.heap.size := H.only.size
  have hil : i.low w.heap.size := by
    cases i with
    | gen F φ st => exact fun k hk => hi.2 k hk
    | _ => trivial
  have mark : ∀ {D : Nat} {W : World} {L : List It}, (∀ j ∈ L, j.low w.heap.size) → Hp S w0 W (i :: L) → w.heap.size ≤ D → W.heap[D]? = some (.deferred (some [])) → Hp S w0 W (dfr D :: i :: L) := by
    intro D W L hl h hD hd
    refine h.add (i := dfr D) ⟨hd, fun k hk => by obtain rfl : k = D := hk; exact (Array.getElem?_eq_some_iff.1 hd).1⟩ (fun k hk => by obtain rfl : k = D := hk; exact .inl (Nat.le_trans hz hD)) (fun j hj k hk hk' => ?_)
    obtain rfl : k = D := hk
    have hlj : j.low w.heap.size := by rcases List.mem_cons.1 hj with rfl | hj; exact hil; exact hl j hj
    rcases j.cells (h.ok j hj) hlj hk' with h2 | ⟨o, ho, hc⟩
    · omega
    · rw [hd] at ho; cases ho; cases hc
  have own : ∀ {β : Type} (J : β → List It → Prop), (∀ pre L, J pre L → ∀ j ∈ L, j.low w.heap.size) → OwnFrom w.heap.size (fun xs W => ∃ L, J xs L ∧ Hp S w0 W (i :: L)) := by
    intro β J hJ s A B row hs hg' hr
    obtain ⟨L, hj, hh⟩ := hs
    exact ⟨L, hj, hh.grown hg' hr hz (fun j hm => by rcases List.mem_cons.1 hm with rfl | hm; exact hil; exact hJ _ _ hj j hm)⟩
  refine .mk hg eg encs i.fp Pin Sx Sp (fun k hk => i.lt hi hk) (fun rec => hseq _ (It.only hi (((Only.refl (fun _ => False) w).alloc _).alloc _) (fun _ _ => id)) (by simp; omega)) hps
    (rI S w0 w.heap.size i J) (rX S w0 i Jx) ?_ (fun c => own (Jx c) (hJx c)) ⟨L, h0, H, Nat.le_refl _⟩ ?_ ?_ ?_
  · intro s A B row hs hg' hr
    obtain ⟨L, hj, hh, hsz⟩ := hs
    obtain ⟨L', hj', hh'⟩ := own J hJ s A B row ⟨L, hj, hh⟩ hg' hr
    exact ⟨L', hj', hh', Nat.le_trans hsz hg'.size⟩
  · rintro pre x W ⟨L, hj, hh, hsz⟩ hpin
    exact hbody pre x W L hj hh hsz hpin
  · rintro D xs W hD hS ⟨L, hj, hh, _⟩ hd
    exact hdone D xs W L hS hj (mark (hJ _ _ hj) hh hD hd) hD
  · rintro D e pre W hD hS ⟨L, hj, hh⟩ hd
    exact hstop D e pre W L hS hj (mark (hJx _ _ _ hj) hh hD hd) hD
/-- At the end the marks are taken away. -/
theorem fin_nil {X : World → Prop} (h : X w) : fin [] w X := by rw [fin_nil_eq]; exact h
theorem fin_cons {D : Nat} {ds : List Nat} {X : World → Prop} (h : Hp S w0 w L) {j : Nat} (hj' : At L j (dfr D)) (hD : w0.heap.size ≤ D) (k : ∀ w1 : World, Hp S w0 w1 (L.eraseIdx j) → fin ds w1 X) : fin (D :: ds) w X := by
  have hj := hj'.get
  have hd : w.heap[D]? = some (.deferred (some [])) := (h.get hj).1
  rw [fin_cons_eq]
  refine ⟨hd, k _ ?_⟩
  have hne : ∀ i ∈ L.eraseIdx j, ∀ q, i.fp q → q ≠ D := by
    intro i hi q hq e
    subst e
    obtain ⟨m, hm, hmj⟩ := List.mem_eraseIdx_iff_getElem?.1 hi
    have hm1 := List.getElem?_eq_some_iff.1 hmj
    have hj1 := List.getElem?_eq_some_iff.1 hj
    obtain ⟨hlm, em⟩ := hm1
    obtain ⟨hlj, ej⟩ := hj1
    rcases Nat.lt_or_gt_of_ne hm with h1 | h1
    · have := List.pairwise_iff_getElem.1 h.apart m j hlm hlj h1 q
      rw [em, ej] at this; exact this hq rfl
    · have := List.pairwise_iff_getElem.1 h.apart j m hlj hlm h1 q
      rw [em, ej] at this; exact this rfl hq
  refine ⟨⟨h.only.os, h.only.tape, h.only.output, by simpa using h.only.size, fun q hq hs => ?_⟩, fun i hi => ?_, h.apart.sublist (List.eraseIdx_sublist ..), fun i hi => h.own i (List.mem_of_mem_eraseIdx hi)⟩
  · rw [World.putObj_heap_other (by omega)]; exact h.only.block q hq hs
  · exact It.keep (h.ok i (List.mem_of_mem_eraseIdx hi)) (by simp) (fun q hq => World.putObj_heap_other (hne i hi q hq))
end
/-! ### Cells of rows are set -/
section
variable {P : Program} {S : Nat → Prop} {w0 w : World} {L : List It}
theorem Row.put1 {w : World} {e : TypeId} {size b n cap : Nat} {xs : List Value} (h : Row w e size (some ⟨b, 0, none⟩) n cap xs) (i : Nat) (v : Value) : Row (w.setCell ⟨b, i, none⟩ v) e size (some ⟨b, 0, none⟩) n cap (xs.set i v) := by
  obtain ⟨h1, h2, h3, h4⟩ := h
  rcases h4 with ⟨h4, _⟩ | ⟨g, cur, hg, hh, hs, ht⟩
  · cases h4
  · injection hg with hg; injection hg with hg; subst hg
    refine ⟨by simpa using h1, h2, h3, .inr ⟨b, cur.setIfInBounds i v, rfl, Blk.set (show Blk w b cur e from hh) i v, by simpa using hs, ?_⟩⟩
    rw [← ht, Array.toList_setIfInBounds, List.take_set]
theorem Row.thaw {w : World} {e : TypeId} {size b n cap : Nat} {xs : List Value} (h : Row w e size (some ⟨b, 0, none⟩) n cap xs) (i : Nat) : w.frozen? ⟨b, i, none⟩ = false := by
  rcases h.2.2.2 with ⟨h4, _⟩ | ⟨g, cur, hg, hh, hs, ht⟩
  · cases h4
  · injection hg with hg; injection hg with hg; subst hg
    exact Blk.frozen (show Blk w b cur e from hh) i
theorem unt_str {K : World → Prop} (h : Hp S w0 w L) {q : Nat} {ty e : TypeId} {size b n cap i : Nat} {xs : List Value} {v : Value} (hk' : At L q (.row e size (some ⟨b, 0, none⟩) n cap xs)) (hs : ∀ w, (sizeOf ty).run P w = .ok 1 w) (h1 : v.oneCell' = true) (hi : i < xs.length)
    (k : ∀ w1 : World, Only (fun x => x = b) w w1 → Hp S w0 w1 (L.set q (.row e size (some ⟨b, 0, none⟩) n cap (xs.set i v))) → K w1) : unt P (st1 ty (.pointer (some ⟨b, i, none⟩)) v) w K := by
  rw [st1_eq]
  have hr : Row w e size (some ⟨b, 0, none⟩) n cap xs := h.get hk'.get
  have hcl : v.cells = #[v] := by cases v <;> first | rfl | cases h1
  have hc := h.rowcell hk' (List.getElem?_eq_getElem hi)
  have ho : Only (fun x => x = b) w (w.setCell ⟨b, i, none⟩ v) := Only.setCell (S := fun x => x = b) (Only.refl _ _) (fun _ => rfl) v
  refine unt_ok (w1 := w.setCell ⟨b, i, none⟩ v) ?_ (k _ ho (h.upd hk'.get (ho.mono fun x _ hx => show ablk (some ⟨b, 0, none⟩) = some x from congrArg some hx.symm) (i' := .row e size (some ⟨b, 0, none⟩) n cap (xs.set i v)) (hr.put1 i v) (fun k hk => .inl hk)))
  simp [Instr.storeAt, Instr.sureAddr, storeVar, hcl, hs, storeCells, run_store P w ⟨b, i, none⟩ v _ h1, hc, hr.thaw i, Addr.add]
end
/-! ### Parts of slices -/
def subA (a : Option Addr) (cap l size : Nat) : Option Addr := if cap = l then a else a.map (·.add (l * size))
theorem subA_blk (a : Option Addr) (cap l size : Nat) : ablk (subA a cap l size) = ablk a := by
  unfold subA
  split
  · rfl
  · exact ablk_add _ _
theorem subA_zero (a : Option Addr) (cap size : Nat) : subA a cap 0 size = a := by
  unfold subA
  split
  · rfl
  · cases a with
    | none => rfl
    | some x => simp [Addr.add]
theorem subA_at {b o cap l size : Nat} (h : cap ≠ l) : subA (some ⟨b, o, none⟩) cap l size = some ⟨b, o + l * size, none⟩ := by
  unfold subA
  rw [if_neg h]
  by_cases h0 : l * size = 0
  · simp [h0, Addr.add]
  · simp [h0, Addr.add]
theorem Lies.sub {w : World} {a : Option Addr} {xs : List Value} (h : Lies w a xs) {cap l size : Nat} (hc : xs.length ≤ cap * size) : Lies w (subA a cap l size) (xs.drop (l * size)) := by
  unfold subA
  split
  · rename_i e
    subst e
    rw [List.drop_eq_nil_of_le hc]
    exact Lies.nil _ _
  · exact h.drop _
theorem run_sliceFrom {P : Program} {t e : TypeId} {size bytes : Nat} (he : ElemT P t e size bytes) {a : Option Addr} {n cap l : Nat} (h : l ≤ n) (w : World) :
    (Instr.sliceAt t (.slice a n cap) (some (.int .i64 l)) none none).run P w = .ok (.slice (subA a cap l size) (n - l) (cap - l)) w := by
  obtain ⟨ht, h0, i, z, hi, hz, hsize, hby, hzs⟩ := he
  have h1 : (0 : Int) ≤ (l : Int) ∧ (l : Int) ≤ (n : Int) := by omega
  simp [Instr.sliceAt, Instr.slice, Instr.sliceBounds, Instr.sliceBound, go_sem, run_underlying ht, sizeOf, typeInfo, hi, hsize, h, subA]
theorem run_sliceTo {P : Program} {t e : TypeId} {size bytes : Nat} (he : ElemT P t e size bytes) {a : Option Addr} {n cap l : Nat} (h : l ≤ cap) (w : World) :
    (Instr.sliceAt t (.slice a n cap) none (some (.int .i64 l)) none).run P w = .ok (.slice a l cap) w := by
  obtain ⟨ht, h0, i, z, hi, hz, hsize, hby, hzs⟩ := he
  have h1 : (0 : Int) ≤ (l : Int) ∧ (l : Int) ≤ (cap : Int) := by omega
  simp [Instr.sliceAt, Instr.slice, Instr.sliceBounds, Instr.sliceBound, go_sem, run_underlying ht, sizeOf, typeInfo, hi, h]
theorem run_slicePart {P : Program} {t e : TypeId} {size bytes : Nat} (he : ElemT P t e size bytes) {a : Option Addr} {n cap l m : Nat} (h : l ≤ m) (hm : m ≤ cap) (w : World) :
    (Instr.sliceAt t (.slice a n cap) (some (.int .i64 l)) (some (.int .i64 m)) none).run P w = .ok (.slice (subA a cap l size) (m - l) (cap - l)) w := by
  obtain ⟨ht, h0, i, z, hi, hz, hsize, hby, hzs⟩ := he
  have h1 : (0 : Int) ≤ (l : Int) ∧ (l : Int) ≤ (m : Int) := by omega
  simp [Instr.sliceAt, Instr.slice, Instr.sliceBounds, Instr.sliceBound, go_sem, run_underlying ht, sizeOf, typeInfo, hi, hsize, h, hm, subA]
end Go.Proofs.Ytchmcjimnliodaa
end
