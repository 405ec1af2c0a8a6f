/- A generator of verification conditions: slots are replaced by values; operations stand as conditions on memory. The definitions, and what an operation does. No program in sight. -/
import Derived.WalkKit
import Derived.OrdersIn
import Derived.TacticsIn
import Derived.OwnWalkIn
import Derived.RangeFuncCalls
import Derived.RangeFuncSeq
namespace Go.Proofs.YtipeanblfjimdaaDoor
open Go

/-! ### What is known of a frame -/
inductive Ent where
  | va (x : Value)
  | bo (x : Bool)
  | un
def Ent.val : Ent → Value
  | .va x => x
  | .bo x => .bool x
  | .un => undef
structure Env where
  get : Nat → Option Ent
  ds : List Nat
def Env.put (E : Env) (d : Option Tmp) (e : Ent) : Env :=
  match d with
  | none => E
  | some d => { get := fun i => bif Nat.beq i d then some e else E.get i, ds := E.ds }
def Env.ent (E : Env) : Operand → Option Ent
  | .tmp t => E.get t
  | .const (.bool b) => some (.bo b)
  | .const v => some (.va v)
  | .global g => some (.va (.pointer (some ⟨g, 0, none⟩)))
  | .func f => some (.va (.func (.func f) #[] #[]))
def entV : Option Ent → Value
  | some e => e.val
  | none => undef
def Env.ev (E : Env) (x : Operand) : Value := entV (E.ent x)
def coll (D : Nat) : Deferred := { target := .collected D, args := #[] }
structure Fits (N : Nat) (E : Env) (a : Act) : Prop where
  get : ∀ i e, E.get i = some e → a.tmps[i]? = some e.val
  size : N ≤ a.tmps.size
  defs : a.defers = E.ds.map coll
def dstOk (N : Nat) (d : Option Tmp) : Bool :=
  match d with
  | none => true
  | some d => Nat.blt d N
theorem Fits.put {N : Nat} {E : Env} {a : Act} (h : Fits N E a) {d : Option Tmp} (hd : dstOk N d = true) (e : Ent) : Fits N (E.put d e) (a.put d e.val) := by
  cases d with
  | none => exact h
  | some d =>
    have hd' : d < N := Nat.le_of_ble_eq_true hd
    have hs := h.size
    refine ⟨fun i e' hi => ?_, by simpa [Act.put] using hs, h.defs⟩
    simp only [Env.put] at hi
    show (a.tmps.setIfInBounds d e.val)[i]? = _
    rw [Array.getElem?_setIfInBounds]
    by_cases hid : i = d
    · subst hid
      simp only [Nat.beq_refl, cond_true, Option.some.injEq] at hi
      subst hi
      rw [if_pos rfl, if_pos (Nat.lt_of_lt_of_le hd' hs)]
    · have : Nat.beq i d = false := by
        cases hb : Nat.beq i d with
        | false => rfl
        | true => exact absurd (Nat.eq_of_beq_eq_true hb) hid
      rw [this] at hi
      rw [if_neg (fun e => hid e.symm)]
      exact h.get i e' hi
theorem Fits.ent {N : Nat} {E : Env} {a : Act} (h : Fits N E a) {x : Operand} {e : Ent} (hx : E.ent x = some e) : a.eval x = e.val := by
  cases x with
  | tmp t =>
    have := h.get t e hx
    show a.tmps.getD t undef = _
    rw [Array.getD_eq_getD_getElem?, this]; rfl
  | const v =>
    simp only [Env.ent] at hx
    cases v <;> (injection hx with hx; subst hx; rfl)
  | global g => injection hx with hx; subst hx; rfl
  | func f => injection hx with hx; subst hx; rfl
theorem Fits.ev {N : Nat} {E : Env} {a : Act} (h : Fits N E a) {x : Operand} (hx : (E.ent x).isSome = true) : a.eval x = E.ev x := by
  cases hq : E.ent x with
  | none => rw [hq] at hx; cases hx
  | some e => rw [h.ent hq, Env.ev, hq]; rfl

/-! ### Operations -/
def onOk (r : Result Value) (K : Value → World → Prop) : Prop :=
  match r with
  | .ok v w => K v w
  | .halt _ _ => False
def onOkU (r : Result Unit) (K : World → Prop) : Prop :=
  match r with
  | .ok _ w => K w
  | .halt _ _ => False
def val (P : Program) (s : Sem Value) (w : World) (K : Value → World → Prop) : Prop := onOk (s.run P w) K
def unt (P : Program) (s : Sem Unit) (w : World) (K : World → Prop) : Prop := onOkU (s.run P w) K
theorem val_iff {P : Program} {s : Sem Value} {w : World} {K : Value → World → Prop} : val P s w K ↔ ∃ v w', s.run P w = .ok v w' ∧ K v w' := by
  unfold val onOk
  constructor
  · intro h
    cases hr : s.run P w with
    | ok v w' => rw [hr] at h; exact ⟨v, w', rfl, h⟩
    | halt x w' => rw [hr] at h; exact h.elim
  · rintro ⟨v, w', hr, h⟩
    rw [hr]; exact h
theorem unt_iff {P : Program} {s : Sem Unit} {w : World} {K : World → Prop} : unt P s w K ↔ ∃ w', s.run P w = .ok () w' ∧ K w' := by
  unfold unt onOkU
  constructor
  · intro h
    cases hr : s.run P w with
    | ok v w' => rw [hr] at h; exact ⟨w', rfl, h⟩
    | halt x w' => rw [hr] at h; exact h.elim
  · rintro ⟨w', hr, h⟩
    rw [hr]; exact h
def isC : Operand → Bool
  | .const _ => true
  | _ => false
def bin (op : BinOp) (t : TypeId) (c : Bool) (a b : Value) : Sem Value := do eqGuard op t (bif c then .const undef else .tmp 0) (.tmp 0) a b; binOp op t a b
def nilc : Value → Sem Value
  | .pointer (some a) => pure (.pointer (some a))
  | .func (.func f) x y => pure (.func (.func f) x y)
  | .func (.yield l) x y => pure (.func (.yield l) x y)
  | _ => stuck "nil"
def biSem (b : Builtin) (ts : Array TypeId) (ty : TypeId) (args : Array Value) : Option (Sem Value) :=
  match b with
  | .append => some (Builtin.append_ ts ty args)
  | .cap => some (Builtin.cap_ ts ty args)
  | .clear => some (Builtin.clear_ ts ty args)
  | .copy => some (Builtin.copy_ ts ty args)
  | .delete => some (Builtin.delete_ ts ty args)
  | .len => some (Builtin.len_ ts ty args)
  | .max => some (Builtin.max_ ts ty args)
  | .min => some (Builtin.min_ ts ty args)
  | _ => none
def opSem (ty : TypeId) (ρ : Operand → Value) : Op → Option (Sem Value)
  | .alloc e => some (Instr.alloc e true (.tuple #[]))
  | .box e x => some (Instr.box e (ρ x))
  | .build t ps => some (Instr.build t (ps.toList.map fun p => (p.1, ρ p.2)).toArray)
  | .buildSlice t n ps => some (Instr.buildSlice t n (ps.toList.map fun p => (p.1, ρ p.2)).toArray)
  | .load t x => some (Instr.loadAt t (ρ x))
  | .nilCheck x => some (nilc (ρ x))
  | .binOp op t x y _ => some (bin op t (isC x || isC y) (ρ x) (ρ y))
  | .unOp op _ x => some (Op.unary op (ρ x))
  | .convert s d x => some (convert s d (ρ x))
  | .makeInterface t x => some (Instr.makeInterface t (ρ x))
  | .makeFunc fn f c => some (Instr.makeFunc fn (f.toList.map ρ).toArray (c.toList.map ρ).toArray)
  | .makeMap t r => some (Instr.makeMap t (r.map ρ))
  | .makeSlice t l c => some (Instr.makeSlice t (ρ l) (ρ c))
  | .slice t x lo hi mx => some (Instr.sliceAt t (ρ x) (lo.map ρ) (hi.map ρ) (mx.map ρ))
  | .fieldAddr s x f => some (Instr.fieldAt s (ρ x) f)
  | .field t x f => some (Instr.field t (ρ x) f)
  | .indexAddr t x i => some (Instr.indexAt t (ρ x) (ρ i))
  | .index t x i => some (Instr.index t (ρ x) (ρ i))
  | .lookup t x i ok => some (Instr.lookup t (ρ x) (ρ i) ok)
  | .mapEntry t m k => some (Instr.mapEntry t (ρ m) (ρ k))
  | .range t x => some (Instr.range t (ρ x))
  | .next it s => some (Instr.next (ρ it) s ty)
  | .entry it => some (Instr.entry (ρ it))
  | .typeAssert x t a ok => some (Instr.typeAssert (ρ x) t a ok)
  | .extract t i => some (Instr.extract (ρ t) i)
  | .waits g => some (Instr.waits g)
  | .call c => match c.callee with
    | .builtin b => biSem b c.argTypes ty (c.args.toList.map ρ).toArray
    | _ => none
  | _ => none
def opUnt (ρ : Operand → Value) : Op → Option (Sem Unit)
  | .store t a x => some (Instr.storeAt t (ρ a) (ρ x))
  | .mapUpdate t m k x => some (Instr.mapUpdate t (ρ m) (ρ k) (ρ x))
  | .insert t m k x => some (Instr.mapUpdate t (ρ m) (ρ k) (ρ x))
  | .entryStore t m s x => some (Instr.entryStore t (ρ m) (ρ s) (ρ x))
  | _ => none
def callOpnds (c : Call) : List Operand := (match c.callee with | .value f => [f] | .invoke r _ => [r] | .builtin _ => []) ++ c.args.toList
def opnds : Op → List Operand
  | .alloc _ | .ready _ | .waits _ => []
  | .move x | .assign x | .box _ x | .load _ x | .nilCheck x | .unOp _ _ x | .convert _ _ x | .sliceToArrayPointer _ x | .makeInterface _ x
  | .makeChan _ x | .fieldAddr _ x _ | .field _ x _ | .range _ x | .next x _ | .entry x | .typeAssert x _ _ _ | .extract x _ | .panic x | .recv _ x _ => [x]
  | .pick c a b => [c, a, b]
  | .build _ ps | .buildSlice _ _ ps => ps.toList.map (·.2)
  | .store _ a v | .binOp _ _ a v _ | .makeSlice _ a v | .indexAddr _ a v | .index _ a v | .lookup _ a v _ | .mapEntry _ a v | .send a v => [a, v]
  | .makeFunc _ first captured => first.toList ++ captured.toList
  | .makeMap _ r => r.toList
  | .slice _ x l h m => [x] ++ l.toList ++ h.toList ++ m.toList
  | .mapUpdate _ m k v | .entryStore _ m k v | .insert _ m k v => [m, k, v]
  | .call c | .go c | .defer c => callOpnds c
  | .select _ _ => []
theorem mem_opnds {o : Op} (hs : ∀ cs b, o ≠ .select cs b) {x : Operand} (h : x ∈ o.operands) : x ∈ opnds o := by
  have hcall : ∀ c : Call, x ∈ c.operands → x ∈ callOpnds c := by
    intro c h
    simp only [Call.operands, callOpnds, Array.mem_append, List.mem_append, Array.mem_toList_iff] at h ⊢
    refine h.imp (fun h => ?_) id
    cases hc : c.callee <;> rw [hc] at h <;> first | (simp at h; done) | simpa using h
  cases o with
  | call c => exact hcall c h
  | go c => exact hcall c h
  | defer c => exact hcall c h
  | select cs b => exact absurd rfl (hs _ _)
  | _ => first
    | exact h
    | (simp [Op.operands, opnds] at h ⊢; done)
    | (simp [Op.operands, opnds] at h ⊢; exact h)
    | (simpa [Op.operands, opnds] using h)
def kn (E : Env) (l : List Operand) : Bool := l.all fun x => (E.ent x).isSome
theorem Fits.kn {N : Nat} {E : Env} {a : Act} (h : Fits N E a) {o : Op} (hs : ∀ cs b, o ≠ .select cs b) (hk : kn E (opnds o) = true) : ∀ x ∈ o.operands, a.eval x = E.ev x := by
  intro x hx
  have := List.all_eq_true.1 hk x (mem_opnds hs hx)
  exact h.ev this

def Enters (P : Program) (f : FuncId) : Prop := ∀ args w, (callFunc f args).run P w = .ok (.enter f args) w
/-- The call of `f` returns, and `K` holds of what it returns and of the world behind it. -/
def Ret (P : Program) (f : FuncId) (args : Array Value) (w : World) (K : Value → World → Prop) : Prop :=
  Enters P f ∧ Calls P f args w fun e w' => ∃ v, e = .returned v ∧ K v w'
theorem Ret.mono {P : Program} {f : FuncId} {args : Array Value} {w : World} {K K' : Value → World → Prop} (h : Ret P f args w K) (hk : ∀ v w', K v w' → K' v w') : Ret P f args w K' :=
  ⟨h.1, h.2.mono fun _ _ ⟨v, e, k⟩ => ⟨v, e, hk v _ k⟩⟩
/-- A round of a range over an iterator. -/
def Yld (P : Program) (l : Nat) (args : Array Value) (w : World) (K : Value → World → Prop) : Prop :=
  YieldAt Fence.wide 0 P l args w fun e w' => ∃ v, e = .returned v ∧ K v w'
def dyn (P : Program) (f : Value) (args : List Value) (w : World) (K : Value → World → Prop) : Prop :=
  match f with
  | .func (.func f) first cap => Ret P f (first ++ args.toArray ++ cap) w K
  | .func (.yield l) first _ => Yld P l (first ++ args.toArray) w K
  | _ => False
def mv (e : Option Ent) (K : Ent → Prop) : Prop :=
  match e with
  | some e => K e
  | none => False
def pick3 (v x y : Value) (K : Value → Prop) : Prop := ∃ b, v = .bool b ∧ K (bif b then x else y)
def pk (c x y : Option Ent) (K : Ent → Prop) : Prop :=
  match c with
  | some (.bo b) => bif b then mv x K else mv y K
  | some (.va v) => mv x fun x => mv y fun y => pick3 v x.val y.val fun r => K (.va r)
  | _ => False
def opGen (P : Program) (E : Env) (o : Oper) (w : World) (K : Ent → World → Prop) : Prop :=
  bif kn E (opnds o.op) then
    match opSem o.type E.ev o.op with
    | some s => val P s w fun v w' => K (.va v) w'
    | none => match opUnt E.ev o.op with
      | some s => unt P s w fun w' => K .un w'
      | none => match o.op with
        | .call c => match c.callee with
          | .value (.func f) => Ret P f (c.args.toList.map E.ev).toArray w fun v w' => K (.va v) w'
          | .value x => dyn P (E.ev x) (c.args.toList.map E.ev) w fun v w' => K (.va v) w'
          | _ => False
        | _ => False
  else False
/-- What an operation must find, and what holds behind it. -/
def opVc (P : Program) (E : Env) (o : Oper) (w : World) (K : Ent → World → Prop) : Prop :=
  match o.op with
  | .move x => mv (E.ent x) fun e => K e w
  | .assign x => mv (E.ent x) fun e => K e w
  | .pick c x y => pk (E.ent c) (E.ent x) (E.ent y) fun e => K e w
  | _ => opGen P E o w K

theorem eqGuard_bin (op : BinOp) (t : TypeId) (x y : Operand) (a b : Value) : eqGuard op t x y a b = eqGuard op t (bif (isC x || isC y) then .const undef else .tmp 0) (.tmp 0) a b := by
  cases x <;> cases y <;> rfl
theorem biSem_run {P : Program} {b : Builtin} {ts : Array TypeId} {ty : TypeId} {cs : Array Bool} {args : Array Value} {s : Sem Value} (h : biSem b ts ty args = some s) {w w' : World} {v : Value} (hr : s.run P w = .ok v w') :
    (builtin b ts ty cs args).run P w = .ok (.value v) w' := by
  cases b <;> simp only [biSem] at h <;> first
    | (injection h with h; subst h; simp only [builtin, Sem.run_bind, Sem.run_pure, hr, Result.andThen_ok]; done)
    | (cases h; done)
theorem map_toArr {α β : Type} (f : α → β) (a : Array α) : (a.toList.map f).toArray = a.map f := Array.ext' (Array.toList_map).symm
theorem nilc_run {P : Program} {x v : Value} {w w' : World} (h : (nilc x).run P w = .ok v w') {ρ : Operand → Value} {o : Oper} {y : Operand} (ho : o.op = .nilCheck y) (hx : ρ y = x) : (execOp ρ o).run P w = .ok (.value v) w' := by
  unfold execOp
  simp only [ho, hx]
  cases x with
  | pointer a => cases a with
    | none => simp [nilc] at h
    | some a => simp only [nilc, Sem.run_pure] at h ⊢; injection h with h1 h2; subst h1; subst h2; rfl
  | func fn first cap => cases fn <;> first
      | (simp only [nilc, Sem.run_pure] at h ⊢; injection h with h1 h2; subst h1; subst h2; rfl)
      | (simp [nilc] at h; done)
  | _ => simp [nilc] at h
theorem opSem_run {P : Program} {ρ : Operand → Value} {o : Oper} {s : Sem Value} (h : opSem o.type ρ o.op = some s) {w w' : World} {v : Value} (hr : s.run P w = .ok v w') : (execOp ρ o).run P w = .ok (.value v) w' := by
  cases ho : o.op with
  | nilCheck x => rw [ho] at h; injection h with h; subst h; exact nilc_run hr ho rfl
  | binOp op t x y t' =>
    rw [ho] at h; injection h with h; subst h
    unfold execOp
    simp only [ho]
    rw [eqGuard_bin]
    unfold bin at hr
    simp only [Sem.run_bind, Sem.run_pure] at hr ⊢
    rw [hr]; rfl
  | call c =>
    rw [ho] at h
    simp only [opSem] at h
    unfold execOp
    simp only [ho]
    cases hc : c.callee with
    | builtin b =>
      rw [hc] at h
      simp only [map_toArr] at h
      simp only [resolve, hc]
      exact biSem_run h hr
    | value f => rw [hc] at h; cases h
    | invoke r m => rw [hc] at h; cases h
  | build t ps =>
    rw [ho] at h; injection h with h; subst h
    unfold execOp
    simp only [ho, Sem.run_bind, Sem.run_pure]
    rw [map_toArr] at hr
    rw [hr]; rfl
  | buildSlice t n ps =>
    rw [ho] at h; injection h with h; subst h
    unfold execOp
    simp only [ho, Sem.run_bind, Sem.run_pure]
    rw [map_toArr] at hr
    rw [hr]; rfl
  | makeFunc fn f c =>
    rw [ho] at h; injection h with h; subst h
    unfold execOp
    simp only [ho, Sem.run_bind, Sem.run_pure]
    rw [map_toArr, map_toArr] at hr
    rw [hr]; rfl
  | _ =>
    rw [ho] at h
    first
      | (cases h; done)
      | (injection h with h; subst h; unfold execOp; simp only [ho, Sem.run_bind, Sem.run_pure, hr, Result.andThen_ok]; done)
theorem opUnt_run {P : Program} {ρ : Operand → Value} {o : Oper} {s : Sem Unit} (h : opUnt ρ o.op = some s) {w w' : World} (hr : s.run P w = .ok () w') : (execOp ρ o).run P w = .ok .skip w' := by
  cases ho : o.op <;> rw [ho] at h <;> first
    | (cases h; done)
    | (injection h with h; subst h; unfold execOp; simp only [ho, Sem.run_bind, Sem.run_pure, hr, Result.andThen_ok]; done)

/-! ### The fences in which we walk -/
structure OkF (F : Fence) : Prop where
  all : ∀ f, F.fn f
  depth : F.depth = none
  calls : ∀ {n : Nat} {P : Program} {f : FuncId} {args : Array Value} {w : World} {R : Ending → World → Prop}, Calls P f args w R → CallsIn F n P f args w R
  round : ∀ {n : Nat} {P : Program} {l : Nat} {f : FuncId} {tmps : Array Value} {x y : Code} {w : World} {R : Ending → World → Prop}, RoundIn Fence.wide 0 P l f tmps x y w R → RoundIn F n P l f tmps x y w R
theorem roundIn_any {n m : Nat} {P : Program} {l : Nat} {f : FuncId} {tmps : Array Value} {x y : Code} {w : World} {R : Ending → World → Prop} (h : RoundIn Fence.wide n P l f tmps x y w R) : RoundIn Fence.wide m P l f tmps x y w R :=
  ⟨trivial, fun c cs _ => h.2 c cs (room_wide _)⟩
theorem okWide : OkF Fence.wide := ⟨fun _ => trivial, rfl, fun h => callsIn_wide.2 h, roundIn_any⟩
theorem okRound (l : Nat) : OkF (Fence.wide.inRound l) := ⟨fun _ => trivial, rfl, fun h => CallsIn.inRound l (callsIn_wide.2 h), fun h => roundIn_any h⟩
theorem semAt_plain' (ro : Option Nat) (ρ : Operand → Value) (o : Oper) (h : ∀ c, o.op ≠ .defer c) : Oper.semAt ro ρ o = execOp ρ o := by
  cases ro with
  | none => exact Oper.semAt_none ρ o
  | some l => exact Oper.semAt_some l ρ o h
variable {F : Fence} {n : Nat} {P : Program}
theorem opVc_sound (hF : OkF F) {N : Nat} {E : Env} {a : Act} (hfit : Fits N E a) {o : Oper} {w : World} {K : Ent → World → Prop} (h : opVc P E o w K)
    {next : Act → World → Prop} {Q : Exit → Act → World → Prop} (hk : ∀ e w', K e w' → next (a.put o.dst e.val) w') : o.wpIn F n P a w next Q := by
  have hdep : ∀ {p : Prop}, F.depth.isSome = true → p := fun hd => by rw [hF.depth] at hd; cases hd
  have fin : (∀ c, o.op ≠ .defer c) → o.uponIn F n P a next Q ((execOp a.eval o).run P w) → o.wpIn F n P a w next Q := fun hd hu =>
    ⟨fun f _ => hF.all f, by rw [semAt_plain' _ _ _ hd]; exact hu⟩
  have one : ∀ {v : Value}, (execOp a.eval o).run P w = .ok (.value v) w → next (a.put o.dst v) w → o.uponIn F n P a next Q ((execOp a.eval o).run P w) := fun hr hn => by rw [hr]; exact hn
  cases ho : o.op with
  | move x =>
    simp only [opVc, ho] at h
    refine fin (by simp [ho]) ?_
    cases hx : E.ent x with
    | none => rw [hx] at h; exact h.elim
    | some e =>
      rw [hx] at h
      exact one (v := e.val) (by unfold execOp; simp only [ho, hfit.ent hx]; rfl) (hk _ _ h)
  | assign x =>
    simp only [opVc, ho] at h
    refine fin (by simp [ho]) ?_
    cases hx : E.ent x with
    | none => rw [hx] at h; exact h.elim
    | some e =>
      rw [hx] at h
      exact one (v := e.val) (by unfold execOp; simp only [ho, hfit.ent hx]; rfl) (hk _ _ h)
  | pick c x y =>
    simp only [opVc, ho] at h
    refine fin (by simp [ho]) ?_
    cases hc : E.ent c with
    | none => rw [hc] at h; exact h.elim
    | some ec =>
      rw [hc] at h
      cases ec with
      | un => exact h.elim
      | bo bb =>
        cases bb with
        | true =>
          cases hx : E.ent x with
          | none => rw [hx] at h; exact h.elim
          | some e => rw [hx] at h; exact one (v := e.val) (by unfold execOp; simp only [ho, hfit.ent hx, hfit.ent hc]; rfl) (hk _ _ h)
        | false =>
          cases hy : E.ent y with
          | none => rw [hy] at h; exact h.elim
          | some e => rw [hy] at h; exact one (v := e.val) (by unfold execOp; simp only [ho, hfit.ent hy, hfit.ent hc]; rfl) (hk _ _ h)
      | va v =>
        cases hx : E.ent x with
        | none => rw [hx] at h; exact h.elim
        | some ex =>
          cases hy : E.ent y with
          | none => rw [hx, hy] at h; exact h.elim
          | some ey =>
            rw [hx, hy] at h
            obtain ⟨bb, rfl, h⟩ := h
            cases bb with
            | true => exact one (v := ex.val) (by unfold execOp; simp only [ho, hfit.ent hx, hfit.ent hc, Ent.val]; rfl) (hk (.va ex.val) _ h)
            | false => exact one (v := ey.val) (by unfold execOp; simp only [ho, hfit.ent hy, hfit.ent hc, Ent.val]; rfl) (hk (.va ey.val) _ h)
  | select cs b => simp [opVc, opGen, ho, opSem, opUnt] at h
  | defer c => simp [opVc, opGen, ho, opSem, opUnt] at h
  | call c =>
    refine fin (by simp [ho]) ?_
    simp only [opVc, opGen, ho] at h
    cases hkn : kn E (opnds (.call c)) with
    | false => rw [hkn] at h; exact h.elim
    | true =>
      rw [hkn] at h
      have hag := hfit.kn (o := .call c) (by simp) hkn
      rw [execOp_congr (ρ := a.eval) (ρ' := E.ev) o (by simp [ho]) (by rw [ho]; exact hag)]
      simp only [cond_true] at h
      cases hs : opSem o.type E.ev (.call c) with
      | some s =>
        rw [hs] at h
        obtain ⟨v, w', hr, h⟩ := val_iff.1 h
        rw [← ho] at hs
        rw [opSem_run hs hr]
        exact hk _ _ h
      | none =>
        rw [hs] at h
        simp only [opUnt] at h
        have callee : ∀ (x : Operand) (v : Value), c.callee = .value x → E.ev x = v → ∀ (fn : Fn) (first cap : Array Value), v = .func fn first cap →
            (execOp E.ev o).run P w = (invoke (.fn fn cap) (first ++ (c.args.toList.map E.ev).toArray)).run P w := by
          intro x v hc hx fn first cap hv
          unfold execOp
          simp only [ho, resolve, hc, hx, hv, Deferred.ofValue, Sem.run_bind, Sem.run_pure, Result.andThen_ok, map_toArr]
        have enters : ∀ (f : FuncId) (first cap : Array Value) , (execOp E.ev o).run P w = (invoke (.fn (.func f) cap) (first ++ (c.args.toList.map E.ev).toArray)).run P w →
            Ret P f (first ++ (c.args.toList.map E.ev).toArray ++ cap) w (fun v w' => K (.va v) w') → o.uponIn F n P a next Q ((execOp E.ev o).run P w) := by
          intro f first cap he hR
          rw [he]
          simp only [invoke]
          rw [hR.1]
          refine ⟨fun hd => hdep hd, CallsIn.mono (hF.calls hR.2) ?_⟩
          rintro e w' ⟨v, rfl, hK⟩
          exact hk _ _ hK
        cases hc : c.callee with
        | builtin b => rw [hc] at h; exact h.elim
        | invoke r m => rw [hc] at h; exact h.elim
        | value x =>
          rw [hc] at h
          cases x with
          | func f =>
            refine enters f #[] #[] (callee _ _ hc rfl _ _ _ rfl) ?_
            simpa using h
          | _ =>
            simp only at h
            generalize hv : E.ev _ = v at h
            cases v with
            | func fn first cap =>
              cases fn with
              | func f => exact enters f first cap (callee _ _ hc hv _ _ _ rfl) h
              | yield l =>
                rw [callee _ _ hc hv _ _ _ rfl]
                obtain ⟨fn, tmps, x, y, hy, hR⟩ := h
                simp only [invoke, hy]
                refine ⟨fun hd => hdep hd, RoundIn.mono (hF.round hR) ?_⟩
                rintro e w' ⟨v, rfl, hK⟩
                exact hk _ _ hK
              | _ => exact h.elim
            | _ => exact h.elim
  | _ =>
    refine fin (by simp [ho]) ?_
    have h : opGen P E o w K := by simpa only [opVc, ho] using h
    unfold opGen at h
    cases hkn : kn E (opnds o.op) with
    | false => rw [hkn] at h; exact h.elim
    | true =>
      rw [hkn] at h
      rw [execOp_congr (ρ := a.eval) (ρ' := E.ev) o (by rw [ho]; simp) (hfit.kn (by rw [ho]; simp) hkn)]
      simp only [cond_true] at h
      cases hs : opSem o.type E.ev o.op with
      | some s =>
        rw [hs] at h
        obtain ⟨v, w', hr, h⟩ := val_iff.1 h
        rw [opSem_run hs hr]
        exact hk _ _ h
      | none =>
        rw [hs] at h
        cases hu : opUnt E.ev o.op with
        | some s =>
          rw [hu] at h
          obtain ⟨w', hr, h⟩ := unt_iff.1 h
          rw [opUnt_run hu hr]
          exact hk _ _ h
        | none => rw [hu, ho] at h; exact h.elim
theorem Ret.calls {f : FuncId} {args : Array Value} {w : World} {K : Value → World → Prop} (h : Ret P f args w K) : Calls P f args w fun e w' => ∃ v, e = .returned v ∧ K v w' := h.2
theorem Ret.enters {f : FuncId} {args : Array Value} {w : World} {K : Value → World → Prop} (h : Ret P f args w K) : Enters P f := h.1
theorem Ret.mk {f : FuncId} {args : Array Value} {w : World} {K : Value → World → Prop} (h1 : Enters P f) (h : Calls P f args w fun e w' => ∃ v, e = .returned v ∧ K v w') : Ret P f args w K := ⟨h1, h⟩
theorem dyn_func {f : FuncId} {first cap : Array Value} {args : List Value} {w : World} {K : Value → World → Prop} (h : Ret P f (first ++ args.toArray ++ cap) w K) : dyn P (.func (.func f) first cap) args w K := h
theorem dyn_yield {l : Nat} {first cap : Array Value} {args : List Value} {w : World} {K : Value → World → Prop} (h : Yld P l (first ++ args.toArray) w K) : dyn P (.func (.yield l) first cap) args w K := h
theorem pick3_iff {v x y : Value} {K : Value → Prop} : pick3 v x y K ↔ ∃ b, v = .bool b ∧ K (bif b then x else y) := Iff.rfl
attribute [irreducible] val unt dyn Ret pick3
end Go.Proofs.YtipeanblfjimdaaDoor
