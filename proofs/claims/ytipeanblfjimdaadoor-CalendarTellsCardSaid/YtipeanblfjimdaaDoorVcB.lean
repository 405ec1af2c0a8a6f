/- A generator of verification conditions: regions, drawn ones too. No program in sight. -/
import Derived.Test.YtipeanblfjimdaaDoorVcA
namespace Go.Proofs.YtipeanblfjimdaaDoor
open Go

/-! ### Guards -/
def dstAt (ops : List Oper) (j : Nat) : Option Tmp := (ops[j]?).bind (·.dst)
def gd (v : Value) (want : Bool) (A B : Prop) : Prop := ∃ b, v = .bool b ∧ (b = want → A) ∧ (b = !want → B)
def beqB : Bool → Bool → Bool
  | true, true => true
  | false, false => true
  | _, _ => false
theorem beqB_iff {a b : Bool} : beqB a b = true ↔ a = b := by cases a <;> cases b <;> simp [beqB]
theorem beqB_not {a b : Bool} : beqB a b = false ↔ a = !b := by cases a <;> cases b <;> simp [beqB]
def grd (ops : List Oper) (o : Oper) (E : Env) (run skip : Env → Prop) : Prop :=
  match o.guard with
  | none => run E
  | some (j, want) => match dstAt ops j with
    | none => False
    | some d => match E.get d with
      | some (.bo b) => bif beqB b want then run E else skip E
      | some .un => skip E
      | some (.va v) => gd v want (run (E.put (some d) (.bo want))) (skip (E.put (some d) (.bo !want)))
      | none => False
theorem Fits.know {N : Nat} {E : Env} {a : Act} (h : Fits N E a) {d : Nat} {b : Bool} (hd : E.get d = some (.va (.bool b))) : Fits N (E.put (some d) (.bo b)) a := by
  refine ⟨fun i e hi => ?_, h.size, h.defs⟩
  simp only [Env.put] at hi
  by_cases hid : i = d
  · subst hid
    simp only [Nat.beq_refl, cond_true, Option.some.injEq] at hi
    subst hi
    show a.tmps[i]? = some (.bool b)
    exact h.get i (.va (.bool b)) hd
  · have : Nat.beq i d = false := by
      cases hb : Nat.beq i d with
      | false => rfl
      | true => exact absurd (Nat.eq_of_beq_eq_true hb) hid
    rw [this] at hi
    exact h.get i e hi
theorem grd_sound {N : Nat} {E : Env} {a : Act} (hfit : Fits N E a) {ops : Array Oper} {o : Oper} {run skip : Env → Prop} (h : grd ops.toList o E run skip) :
    (Region.wanted o (yielded ops a.tmps) = true ∧ ∃ E', Fits N E' a ∧ run E') ∨ (Region.wanted o (yielded ops a.tmps) = false ∧ ∃ E', Fits N E' a ∧ skip E') := by
  unfold grd at h
  unfold Region.wanted
  cases hg : o.guard with
  | none => rw [hg] at h; exact .inl ⟨rfl, E, hfit, h⟩
  | some g =>
    obtain ⟨j, want⟩ := g
    rw [hg] at h
    simp only at h
    cases hd : dstAt ops.toList j with
    | none => rw [hd] at h; exact h.elim
    | some d =>
      rw [hd] at h
      simp only at h
      have hd' : (ops[j]?).bind (·.dst) = some d := by simpa [dstAt] using hd
      have hy : yielded ops a.tmps j = match a.tmps[d]? with | some (.bool b) => some b | _ => none := by
        unfold yielded
        rw [hd']; rfl
      cases he : E.get d with
      | none => rw [he] at h; exact h.elim
      | some e =>
        rw [he] at h
        have ht := hfit.get d e he
        simp only [hy, ht]
        cases e with
        | bo b =>
          cases b <;> cases want <;> first
            | exact .inl ⟨rfl, E, hfit, h⟩
            | exact .inr ⟨rfl, E, hfit, h⟩
        | un => exact .inr ⟨rfl, E, hfit, h⟩
        | va v =>
          obtain ⟨b, rfl, h1, h2⟩ := h
          cases b <;> cases want <;> first
            | exact .inl ⟨rfl, _, hfit.know he, h1 rfl⟩
            | exact .inr ⟨rfl, _, hfit.know he, h2 rfl⟩

/-! ### A region in the text's order -/
def vcOps (P : Program) (ops : List Oper) : List Oper → Env → World → (Env → World → Prop) → Prop
  | [], E, w, K => K E w
  | o :: rest, E, w, K => grd ops o E (fun E => opVc P E o w fun e w' => vcOps P ops rest (E.put o.dst e) w' K) (fun E => vcOps P ops rest (E.put o.dst .un) w K)
def dstsOk (N : Nat) (ops : List Oper) : Bool := ops.all fun o => dstOk N o.dst
variable {F : Fence} {n : Nat} {P : Program}
theorem vcOps_sound (hF : OkF F) {N : Nat} {ops : Array Oper} {K : Env → World → Prop} {Q : Exit → Act → World → Prop} {R : Act → Prop} (hR : ∀ a o v, o ∈ ops → R a → R (a.put o.dst v))
    (hQ : ∀ E a w, Fits N E a → R a → K E w → Q .normal a w) :
    ∀ (rest : List Oper) (k : Nat), (∀ j, rest[j]? = ops[k + j]?) → dstsOk N rest = true → ∀ (E : Env) (a : Act) (w : World), Fits N E a → R a → vcOps P ops.toList rest E w K →
      wpOpsIn F n P ops Q (List.range' k rest.length) a w := by
  intro rest
  induction rest with
  | nil => intro k _ _ E a w hfit hra h; exact hQ E a w hfit hra h
  | cons o rest ih =>
    intro k hk hd E a w hfit hra h
    have h0 : ops[k]? = some o := by simpa using (hk 0).symm
    have hom : o ∈ ops := Array.mem_of_getElem? h0
    have ih' := ih (k + 1) (fun j => by have := hk (j + 1); simpa [Nat.add_assoc, Nat.add_comm 1 j] using this) (by simp [dstsOk] at hd ⊢; exact hd.2)
    have hdo : dstOk N o.dst = true := by simp [dstsOk] at hd; exact hd.1
    simp only [List.length_cons, List.range'_succ, wpOpsIn, h0]
    rcases grd_sound hfit h with ⟨hw, E', hf, hr⟩ | ⟨hw, E', hf, hr⟩
    · rw [if_pos hw]
      exact opVc_sound hF hf hr fun e w' he => ih' _ _ _ (hf.put hdo e) (hR _ _ _ hom hra) he
    · rw [if_neg (by simp [hw])]
      exact ⟨fun f _ => hF.all f, ih' _ _ _ (hf.put hdo .un) (hR _ _ _ hom hra) hr⟩
theorem vcRegion_sound (hF : OkF F) {N : Nat} {id : Nat} {ops : Array Oper} {K : Env → World → Prop} {Q : Exit → Act → World → Prop} {R : Act → Prop} (hR : ∀ a o v, o ∈ ops → R a → R (a.put o.dst v)) (hQ : ∀ E a w, Fits N E a → R a → K E w → Q .normal a w)
    (hd : dstsOk N ops.toList = true) {E : Env} {a : Act} {w : World} (hfit : Fits N E a) (hra : R a) (h : vcOps P ops.toList ops.toList E w K) : (Code.region id ops false).wpIn F n P Q a w := by
  refine wpIn_region ?_
  rw [List.range_eq_range', ← Array.length_toList]
  exact vcOps_sound hF hR hQ ops.toList 0 (by simp) hd E a w hfit hra h

/-! ### A region that draws its order -/
inductive St where
  | nil
  | tk (i hi : Nat) (r : St)
  | one (i : Nat) (r : St)
  | two (i : Nat) (r : St) (j : Nat) (q : St)
def St.len : St → Nat
  | .nil => 0
  | .tk _ _ r => r.len + 1
  | .one _ r => r.len + 1
  | .two _ r _ _ => r.len + 1
def two (A B : Prop) : Prop := A ∧ B
def tk (P : Program) (T : Nat → World → Prop) (hi : Nat) (s : Sem Value) (K : Value → Prop) : Prop := ∃ v, (∀ p w, p ≤ hi → T p w → s.run P w = .ok v w) ∧ K v
def puR (r : World → Result Value) (K : Value → Prop) : Prop := ∃ v, (∀ w, r w = .ok v w) ∧ K v
def pu (P : Program) (s : Sem Value) (K : Value → Prop) : Prop := puR (fun w => s.run P w) K
def ph (T : Nat → World → Prop) (p : Nat) (w : World) (X : Prop) : Prop := T p w ∧ X
def isPure : Op → Bool
  | .build .. | .nilCheck .. | .unOp .. | .makeInterface .. | .makeFunc .. | .slice .. | .fieldAddr .. | .field .. | .indexAddr .. | .index .. | .extract .. | .binOp .. => true
  | _ => false
def opDG (P : Program) (E : Env) (T : Nat → World → Prop) (hi : Nat) (o : Oper) (K : Ent → Prop) : Prop :=
  bif kn E (opnds o.op) then
    match opSem o.type E.ev o.op with
    | some s => bif isPure o.op then pu P s fun v => K (.va v) else tk P T hi s fun v => K (.va v)
    | none => False
  else False
def opD (P : Program) (E : Env) (T : Nat → World → Prop) (hi : Nat) (o : Oper) (K : Ent → Prop) : Prop :=
  match o.op with
  | .move x => mv (E.ent x) K
  | .assign x => mv (E.ent x) K
  | .pick c x y => pk (E.ent c) (E.ent x) (E.ent y) K
  | _ => opDG P E T hi o K
def oneD (P : Program) (ops : List Oper) (T : Nat → World → Prop) (i p : Nat) (E : Env) (w : World) (X : Env → World → Prop) : Prop :=
  match ops[i]? with
  | none => False
  | some o => grd ops o E (fun E => opVc P E o w fun e w' => ph T (p + 1) w' (X (E.put o.dst e) w')) (fun E => ph T (p + 1) w (X (E.put o.dst .un) w))
def vcD (P : Program) (ops : List Oper) (T : Nat → World → Prop) : St → Nat → Env → World → (Env → World → Prop) → Prop
  | .nil, _, E, w, K => K E w
  | .tk i hi r, p, E, w, K => match ops[i]? with
    | none => False
    | some o => grd ops o E (fun E => opD P E T hi o fun e => vcD P ops T r p (E.put o.dst e) w K) (fun E => vcD P ops T r p (E.put o.dst .un) w K)
  | .one i r, p, E, w, K => oneD P ops T i p E w fun E w => vcD P ops T r (p + 1) E w K
  | .two i r j q, p, E, w, K => two (oneD P ops T i p E w fun E w => vcD P ops T r (p + 1) E w K) (oneD P ops T j p E w fun E w => vcD P ops T q (p + 1) E w K)
def drw (w : World) (B : (Nat → World → Prop) → World → Prop) : Prop := ∃ T : Nat → World → Prop, T 0 w.drew ∧ B T w.drew

/-! The checks, on lists. -/
def afterOk (o : Oper) (L : List Bool) : Bool := o.after.toList.all fun e => !Region.binds .any e || L.getD e.on false
def readyL (ops : List Oper) (L : List Bool) : List Nat :=
  (List.range ops.length).filter fun i => !L.getD i true && ((ops[i]?).map fun o => afterOk o L).getD false
def looksL (ops : List Oper) (o : Oper) : List Tmp :=
  ((opnds o.op).filterMap fun | .tmp t => some t | _ => none) ++ (match o.guard with | some (g, _) => (dstAt ops g).toList | none => [])
def memN (d : Nat) (l : List Nat) : Bool := l.any fun x => Nat.beq d x
def apartL (ops : List Oper) (x y : Oper) : Bool :=
  (match x.dst with
   | some d => !memN d (looksL ops y) && !(match y.dst with | some e => Nat.beq d e | none => false)
   | none => true) &&
  (match y.dst with
   | some d => !memN d (looksL ops x)
   | none => true)
def freeL (ops : List Oper) (L : List Bool) (i : Nat) : Bool :=
  match ops[i]? with
  | none => false
  | some oi => (List.range ops.length).all fun j => Nat.beq j i || L.getD j true || match ops[j]? with
      | some oj => oj.after.toList.any (fun e => Region.binds .any e && Nat.beq e.on i) || apartL ops oi oj
      | none => true
def reach (ops : List Oper) : Nat → Nat → Nat → Bool
  | 0, _, _ => false
  | k + 1, c, i => match ops[c]? with
    | some o => o.after.toList.any fun e => Region.binds .any e && (Nat.beq e.on i || reach ops k e.on i)
    | none => false
def hiOk (ops : List Oper) (C : List Nat) (i hi : Nat) : Bool := Nat.ble (C.countP fun c => !reach ops ops.length c i) hi
def nC (C : List Nat) (L : List Bool) : Nat := C.countP fun c => L.getD c false
def oneOk (C : List Nat) (i p : Nat) (L : List Bool) : Bool := Nat.beq (nC C (L.set i true)) (p + 1)
def stepsOk (ops : List Oper) (C : List Nat) : St → Nat → List Bool → Bool
  | .nil, _, L => (readyL ops L).isEmpty
  | .tk i hi r, p, L => freeL ops L i && memN i (readyL ops L) && !memN i C && hiOk ops C i hi && stepsOk ops C r p (L.set i true)
  | .one i r, p, L => (match readyL ops L with | [j] => Nat.beq i j | _ => false) && oneOk C i p L && stepsOk ops C r (p + 1) (L.set i true)
  | .two i r k q, p, L => (match readyL ops L with | [a, b] => Nat.beq i a && Nat.beq k b | _ => false) && (oneOk C i p L && stepsOk ops C r (p + 1) (L.set i true)) && (oneOk C k p L && stepsOk ops C q (p + 1) (L.set k true)) && Nat.beq r.len q.len
def plainL (ops : List Oper) : Bool := ops.all fun o => match o.op with | .defer _ => false | .select _ _ => false | _ => true
def ones : St → List Nat
  | .nil => []
  | .tk _ _ r => ones r
  | .one i r => i :: ones r
  | .two i r _ _ => i :: ones r
def drawOk (ops : List Oper) (l : St) : Bool := plainL ops && Nat.beq l.len ops.length && stepsOk ops (ones l) l 0 (List.replicate ops.length false)

theorem memN_iff {d : Nat} {l : List Nat} : memN d l = true ↔ d ∈ l := by
  unfold memN
  rw [List.any_eq_true]
  constructor
  · rintro ⟨x, hx, h⟩; rw [Nat.eq_of_beq_eq_true h]; exact hx
  · intro h; exact ⟨d, h, Nat.beq_refl d⟩
theorem beq_iff' {a b : Nat} : Nat.beq a b = true ↔ a = b := ⟨Nat.eq_of_beq_eq_true, fun h => h ▸ Nat.beq_refl a⟩
theorem ready_eq (ops : Array Oper) (L : Array Bool) : Region.ready .any ops L = readyL ops.toList L.toList := by
  unfold Region.ready readyL
  simp only [Array.length_toList]
  congr 1
  funext i
  simp only [Array.getElem?_toList, afterOk]
  congr 1
  · simp [Array.getD_eq_getD_getElem?, List.getD_eq_getElem?_getD]
  · congr 1
    congr 1
    funext o
    simp [Array.getD_eq_getD_getElem?, List.getD_eq_getElem?_getD, Array.all_toList]
theorem looks_sub {ops : Array Oper} {o : Oper} (hs : ∀ cs b, o.op ≠ .select cs b) {d : Tmp} (h : d ∈ o.looksAt ops) : d ∈ looksL ops.toList o := by
  unfold Oper.looksAt at h
  unfold looksL
  rw [List.mem_append] at h ⊢
  refine h.imp (fun h => ?_) (fun h => ?_)
  · rw [List.mem_filterMap] at h ⊢
    obtain ⟨x, hx, he⟩ := h
    exact ⟨x, mem_opnds hs (by simpa using hx), he⟩
  · cases hg : o.guard with
    | none => rw [hg] at h; simp at h
    | some g => rw [hg] at h; simpa [dstAt] using h
theorem apartL_spec {ops : Array Oper} {x y : Oper} (hx : ∀ cs b, x.op ≠ .select cs b) (hy : ∀ cs b, y.op ≠ .select cs b) (h : apartL ops.toList x y = true) :
    (∀ d, x.dst = some d → d ∉ y.looksAt ops) ∧ (∀ d, x.dst = some d → y.dst ≠ some d) ∧ (∀ d, y.dst = some d → d ∉ x.looksAt ops) := by
  unfold apartL at h
  rw [Bool.and_eq_true] at h
  refine ⟨fun d hd hl => ?_, fun d hd hl => ?_, fun d hd hl => ?_⟩
  · have h1 := h.1
    rw [hd] at h1
    simp only [Bool.and_eq_true, Bool.not_eq_true'] at h1
    have := memN_iff.2 (looks_sub hy hl)
    rw [h1.1] at this; cases this
  · have h1 := h.1
    rw [hd] at h1
    simp only [Bool.and_eq_true, Bool.not_eq_true', hl, Nat.beq_refl] at h1
    exact absurd h1.2 (by simp)
  · have h1 := h.2
    rw [hd] at h1
    simp only [Bool.not_eq_true'] at h1
    have := memN_iff.2 (looks_sub hx hl)
    rw [h1] at this; cases this

/-! Whatever the order. -/
section draw
variable {ops : Array Oper} {Q : Exit → Act → World → Prop} {T : Nat → World → Prop} {C : List Nat}
def wpP (F : Fence) (n : Nat) (P : Program) (ops : Array Oper) (Q : Exit → Act → World → Prop) (T : Nat → World → Prop) (C : List Nat) : Nat → Array Bool → Act → World → Prop
  | 0, L, a, w => T (nC C L.toList) w ∧ Region.ready .any ops L = [] ∧ Q .normal a w
  | k + 1, L, a, w => T (nC C L.toList) w ∧ (Region.ready .any ops L = [] → Q .normal a w) ∧ ∀ i ∈ Region.ready .any ops L, wpOpIn F n P ops Q i (wpP F n P ops Q T C k (L.setIfInBounds i true)) a w
theorem wpP.any {k : Nat} : ∀ {L : Array Bool} {a : Act} {w : World}, wpP F n P ops Q T C k L a w → wpAnyIn F n P .any ops Q k L a w := by
  induction k with
  | zero => intro L a w h; exact h.2
  | succ k ih => intro L a w h; exact ⟨h.2.1, fun i hi => wpOpIn_mono (fun _ _ => ih) (h.2.2 i hi)⟩
def Closed (ops : Array Oper) (L : Array Bool) : Prop := ∀ c o, ops[c]? = some o → L.getD c false = true → ∀ e ∈ o.after, Region.binds .any e = true → L.getD e.on false = true
theorem getD_set {L : Array Bool} {i j : Nat} (h : L.getD j false = true) : (L.setIfInBounds i true).getD j false = true := by
  rw [Array.getD_eq_getD_getElem?] at h ⊢
  rw [Array.getElem?_setIfInBounds]
  by_cases hij : i = j
  · subst hij
    cases hq : L[i]? with
    | none => rw [hq] at h; cases h
    | some b => simp [(Array.getElem?_eq_some_iff.1 hq).1]
  · simpa [hij] using h
theorem Closed.step {L : Array Bool} (h : Closed ops L) {i : Nat} (hi : i ∈ Region.ready .any ops L) : Closed ops (L.setIfInBounds i true) := by
  intro c o hc hl e he hb
  by_cases hci : c = i
  · subst hci
    obtain ⟨_, o', ho', hall⟩ := mem_ready.1 hi
    rw [hc] at ho'; injection ho' with ho'; subst ho'
    exact getD_set (hall e he hb)
  · refine getD_set (h c o hc ?_ e he hb)
    rw [Array.getD_eq_getD_getElem?] at hl ⊢
    rw [Array.getElem?_setIfInBounds, if_neg (fun e : i = c => hci e.symm)] at hl
    exact hl
theorem Closed.reach {L : Array Bool} (h : Closed ops L) : ∀ (k c i : Nat), reach ops.toList k c i = true → L.getD c false = true → L.getD i false = true := by
  intro k
  induction k with
  | zero => intro c i hr; cases hr
  | succ k ih =>
    intro c i hr hl
    unfold YtipeanblfjimdaaDoor.reach at hr
    cases hc : ops.toList[c]? with
    | none => rw [hc] at hr; cases hr
    | some o =>
      rw [hc] at hr
      simp only [List.any_eq_true, Bool.and_eq_true, Bool.or_eq_true] at hr
      obtain ⟨e, he, hb, hr⟩ := hr
      have h1 := h c o (by simpa using hc) hl e (by simpa using he) hb
      rcases hr with hr | hr
      · rw [← beq_iff'.1 hr]; exact h1
      · exact ih _ _ hr h1
theorem Closed.hi {L : Array Bool} (h : Closed ops L) {i hi : Nat} (hh : hiOk ops.toList C i hi = true) (hu : L.getD i true = false) : nC C L.toList ≤ hi := by
  refine Nat.le_trans ?_ (Nat.le_of_ble_eq_true hh)
  refine List.countP_mono_left fun c _ hc => ?_
  have hc : L.getD c false = true := by simpa [Array.getD_eq_getD_getElem?, List.getD_eq_getElem?_getD] using hc
  cases hr : YtipeanblfjimdaaDoor.reach ops.toList ops.toList.length c i with
  | false => rfl
  | true =>
    have := h.reach _ _ _ hr hc
    rw [Array.getD_eq_getD_getElem?] at this hu
    cases hq : L[i]? with
    | none => rw [hq] at this; cases this
    | some b => rw [hq] at this hu; simp at this hu; rw [this] at hu; cases hu
theorem nC_set {L : Array Bool} {i : Nat} (h : i ∉ C) : nC C (L.setIfInBounds i true).toList = nC C L.toList := by
  unfold nC
  refine List.countP_congr fun c hc => ?_
  have : i ≠ c := fun e => h (e ▸ hc)
  simp [List.getD_eq_getElem?_getD, this]
def YieldsP (P : Program) (ops : Array Oper) (T : Nat → World → Prop) (hi : Nat) (o : Oper) (v : Value) (a : Act) : Prop :=
  (Region.wanted o (yielded ops a.tmps) = true ∧ ∀ p w, p ≤ hi → T p w → (execOp a.eval o).run P w = .ok (.value v) w) ∨ (Region.wanted o (yielded ops a.tmps) = false ∧ v = undef)
theorem YieldsP.of_same {hi : Nat} {o : Oper} {v : Value} {a a' : Act} (hy : YieldsP P ops T hi o v a) (he : execOp a'.eval o = execOp a.eval o)
    (hw : Region.wanted o (yielded ops a'.tmps) = Region.wanted o (yielded ops a.tmps)) : YieldsP P ops T hi o v a' := by
  unfold YieldsP at *
  rw [he, hw]; exact hy
theorem plainL_spec (h : plainL ops.toList = true) {j : Nat} {o : Oper} (hj : ops[j]? = some o) : (∀ c, o.op ≠ .defer c) ∧ (∀ cs b, o.op ≠ .select cs b) := by
  have h2 := List.all_eq_true.1 h o (Array.mem_toList_iff.2 (Array.mem_of_getElem? hj))
  refine ⟨fun c hc => ?_, fun cs b hc => ?_⟩ <;> (rw [hc] at h2; cases h2)
variable (hF : OkF F) (hpl : plainL ops.toList = true)
include hF hpl
theorem YieldsP.wpOpIn {i hi : Nat} {o : Oper} {v : Value} {a : Act} (hi' : ops[i]? = some o) (hy : YieldsP P ops T hi o v a) {K : Act → World → Prop} {w : World} {p : Nat} (hp : p ≤ hi) (hT : T p w) (h : K (a.put o.dst v) w) : wpOpIn F n P ops Q i K a w := by
  unfold Go.wpOpIn
  simp only [hi']
  rcases hy with ⟨hw, hv⟩ | ⟨hw, rfl⟩
  · simp only [hw, if_true, Oper.wpIn, semAt_plain' _ _ _ (plainL_spec hpl hi').1, hv p w hp hT, Oper.uponIn]
    exact ⟨fun f _ => hF.all f, h⟩
  · simp only [hw, Bool.false_eq_true, if_false]
    exact ⟨fun f _ => hF.all f, h⟩
theorem wpOpIn_putP {i j hi : Nat} {oi oj : Oper} {v : Value} (hi' : ops[i]? = some oi) (hj : ops[j]? = some oj) (hap : apartL ops.toList oi oj = true)
    (hQ : ∀ c a w, ¬ Q (.panic c) a w) {K : Act → World → Prop} {a : Act} {w : World}
    (hy : YieldsP P ops T hi oi v a) (h : wpOpIn F n P ops Q j K (a.put oi.dst v) w) :
    wpOpIn F n P ops Q j (fun a' w' => YieldsP P ops T hi oi v a' ∧ K (a'.put oi.dst v) w') a w := by
  obtain ⟨hdi, hsi⟩ := plainL_spec hpl hi'
  obtain ⟨hdj, hsj⟩ := plainL_spec hpl hj
  obtain ⟨h1, h2, h3⟩ := apartL_spec hsi hsj hap
  have keep : ∀ u, YieldsP P ops T hi oi v (a.put oj.dst u) := fun u => hy.of_same (execOp_put oi hsi a oj.dst u h3) (wanted_put oi a oj.dst u h3)
  have sw : ∀ u w', K ((a.put oi.dst v).put oj.dst u) w' → YieldsP P ops T hi oi v (a.put oj.dst u) ∧ K ((a.put oj.dst u).put oi.dst v) w' := fun u w' hk =>
    ⟨keep u, by rw [← Act.put_comm a v u h2]; exact hk⟩
  unfold Go.wpOpIn at *
  simp only [hj] at *
  rw [wanted_put oj a oi.dst v h1] at h
  by_cases hw : Region.wanted oj (yielded ops a.tmps) = true
  · rw [if_pos hw] at h ⊢
    unfold Oper.wpIn at *
    refine ⟨fun f _ => hF.all f, ?_⟩
    have h := h.2
    rw [semAt_plain' _ _ _ hdj, execOp_put oj hsj a oi.dst v h1] at h
    rw [semAt_plain' _ _ _ hdj]
    cases hr : (execOp a.eval oj).run P w with
    | ok x w' =>
      rw [hr] at h
      cases x with
      | value u => exact sw u w' h
      | skip => exact sw undef w' h
      | defer d =>
        obtain ⟨k1, k2⟩ := (show _ ∧ _ from ⟨(hy.of_same (a' := { a with defers := d :: a.defers }) rfl rfl).of_same (execOp_put oi hsi _ oj.dst undef h3) (wanted_put oi _ oj.dst undef h3), h⟩)
        refine ⟨k1, ?_⟩
        rw [← Act.put_comm _ v undef h2, ← Act.put_defers]
        exact k2
      | enter f args =>
        refine ⟨h.1, CallsIn.mono h.2 fun e w'' he => ?_⟩
        cases e with
        | returned u => exact sw u w'' he
        | panicked c => exact absurd he (hQ _ _ _)
        | outgrown => exact he
      | row row args => exact ⟨h.1, RowsIn.mono h.2 fun u w'' he => sw u w'' he⟩
      | round l f tmps assign body =>
        refine ⟨h.1, RoundIn.mono h.2 fun e w'' he => ?_⟩
        cases e with
        | returned u => exact sw u w'' he
        | panicked c => exact absurd he (hQ _ _ _)
        | outgrown => exact he
      | _ => exact h
    | halt x w' =>
      rw [hr] at h
      cases x with
      | panic u => exact absurd h (hQ _ _ _)
      | _ => exact h
  · rw [if_neg hw] at h ⊢
    exact ⟨fun f _ => hF.all f, sw undef w h.2⟩
theorem wpP_first {i hi : Nat} {oi : Oper} {v : Value} (hi' : ops[i]? = some oi) (hC : i ∉ C) (hh : hiOk ops.toList C i hi = true) (hQ : ∀ c a w, ¬ Q (.panic c) a w) :
    ∀ (k : Nat) (L : Array Bool) (a : Act) (w : World),
      (∀ j oj, ops[j]? = some oj → j ≠ i → L.getD j true = false → (∀ e ∈ oj.after, Region.binds .any e = true → e.on ≠ i) → apartL ops.toList oi oj = true) → Closed ops L → i ∈ Region.ready .any ops L → YieldsP P ops T hi oi v a →
      wpP F n P ops Q T C k (L.setIfInBounds i true) (a.put oi.dst v) w → wpP F n P ops Q T C (k + 1) L a w := by
  intro k
  induction k with
  | zero =>
    intro L a w _ hcl hr hy H
    have hT : T (nC C L.toList) w := by have := H.1; rwa [nC_set hC] at this
    refine ⟨hT, fun h => (by rw [h] at hr; cases hr), fun j hj => ?_⟩
    by_cases hji : j = i
    · subst hji; exact hy.wpOpIn hF hpl hi' (hcl.hi hh (mem_ready.1 hr).1) hT H
    · have := ready_mono hj hji
      rw [H.2.1] at this
      cases this
  | succ k ih =>
    intro L a w hf hcl hr hy H
    have hT : T (nC C L.toList) w := by have := H.1; rwa [nC_set hC] at this
    refine ⟨hT, fun h => (by rw [h] at hr; cases hr), fun j hj => ?_⟩
    by_cases hji : j = i
    · subst hji; exact hy.wpOpIn hF hpl hi' (hcl.hi hh (mem_ready.1 hr).1) hT H
    · have h1 := H.2.2 j (ready_mono hj hji)
      obtain ⟨hjun, oj, hoj, hall'⟩ := mem_ready.1 hj
      have hiun := (mem_ready.1 hr).1
      have hnot : ∀ e ∈ oj.after, Region.binds .any e = true → e.on ≠ i := fun e he hb heq => by
        have h1 := hall' e he hb
        rw [heq] at h1
        rw [Array.getD_eq_getD_getElem?] at h1 hiun
        cases hl : L[i]? with
        | none => rw [hl] at h1; cases h1
        | some b => rw [hl] at h1 hiun; simp at h1 hiun; rw [h1] at hiun; cases hiun
      have hap := hf j oj hoj hji hjun hnot
      have h2 := wpOpIn_putP hF hpl hi' hoj hap hQ hy h1
      refine wpOpIn_mono (fun a' w' h3 => ih (L.setIfInBounds j true) a' w' ?_ (hcl.step hj) (ready_mono hr (Ne.symm hji)) h3.1 ?_) h2
      · intro k' ok hk hki hun hno
        refine hf k' ok hk hki ?_ hno
        by_cases hjk : j = k'
        · subst hjk; exact hjun
        · rw [getD_set_ne true hjk] at hun; exact hun
      · rw [Array.setIfInBounds_comm _ _ hji]
        exact h3.2
omit hF hpl in
theorem wpP_done {k : Nat} {L : Array Bool} {a : Act} {w : World} (hr : Region.ready .any ops L = []) (hT : T (nC C L.toList) w) (h : Q .normal a w) : wpP F n P ops Q T C k L a w := by
  cases k with
  | zero => exact ⟨hT, hr, h⟩
  | succ k => exact ⟨hT, fun _ => h, fun i hi => by rw [hr] at hi; cases hi⟩
omit hF hpl in
theorem freeL_spec {i : Nat} {oi : Oper} {L : Array Bool} (hi : ops[i]? = some oi) (h : freeL ops.toList L.toList i = true) (j : Nat) (oj : Oper)
    (hj : ops[j]? = some oj) (hne : j ≠ i) (hun : L.getD j true = false) (hno : ∀ e ∈ oj.after, Region.binds .any e = true → e.on ≠ i) : apartL ops.toList oi oj = true := by
  unfold freeL at h
  rw [Array.getElem?_toList, hi] at h
  simp only [List.all_eq_true, List.mem_range] at h
  have hlt : j < ops.toList.length := by simpa using (Array.getElem?_eq_some_iff.1 hj).1
  have h1 := h j hlt
  rw [Array.getElem?_toList, hj] at h1
  have hun' : L.toList.getD j true = false := by simpa [Array.getD_eq_getD_getElem?, List.getD_eq_getElem?_getD] using hun
  have hb : Nat.beq j i = false := by
    cases hb : Nat.beq j i with
    | false => rfl
    | true => exact absurd (beq_iff'.1 hb) hne
  simp only [hb, hun', Bool.false_or, Bool.or_eq_true, List.any_eq_true, Bool.and_eq_true] at h1
  rcases h1 with ⟨e, he, hb, hon⟩ | h1
  · exact absurd (beq_iff'.1 hon) (hno e (by simpa using he) hb)
  · exact h1
omit hF hpl in
theorem opD_sound {N : Nat} {E : Env} {a : Act} (hfit : Fits N E a) {o : Oper} {hi : Nat} {K : Ent → Prop} (h : opD P E T hi o K) (hs : ∀ cs b, o.op ≠ .select cs b) :
    ∃ e, K e ∧ ∀ p w, p ≤ hi → T p w → (execOp a.eval o).run P w = .ok (.value e.val) w := by
  cases ho : o.op with
  | move x =>
    simp only [opD, ho] at h
    cases hx : E.ent x with
    | none => rw [hx] at h; exact h.elim
    | some e => rw [hx] at h; exact ⟨e, h, fun p w _ _ => by unfold execOp; simp only [ho, hfit.ent hx]; rfl⟩
  | assign x =>
    simp only [opD, ho] at h
    cases hx : E.ent x with
    | none => rw [hx] at h; exact h.elim
    | some e => rw [hx] at h; exact ⟨e, h, fun p w _ _ => by unfold execOp; simp only [ho, hfit.ent hx]; rfl⟩
  | pick c x y =>
    simp only [opD, ho] at h
    cases hc : E.ent c with
    | none => rw [hc] at h; exact h.elim
    | some ec =>
      rw [hc] at h
      cases ec with
      | un => exact h.elim
      | bo bb =>
        cases bb with
        | true =>
          cases hx : E.ent x with
          | none => rw [hx] at h; exact h.elim
          | some e => rw [hx] at h; exact ⟨e, h, fun p w _ _ => by unfold execOp; simp only [ho, hfit.ent hx, hfit.ent hc]; rfl⟩
        | false =>
          cases hy : E.ent y with
          | none => rw [hy] at h; exact h.elim
          | some e => rw [hy] at h; exact ⟨e, h, fun p w _ _ => by unfold execOp; simp only [ho, hfit.ent hy, hfit.ent hc]; rfl⟩
      | va v =>
        cases hx : E.ent x with
        | none => rw [hx] at h; exact h.elim
        | some ex =>
          cases hy : E.ent y with
          | none => rw [hx, hy] at h; exact h.elim
          | some ey =>
            rw [hx, hy] at h
            obtain ⟨bb, rfl, hk⟩ := pick3_iff.1 h
            cases bb with
            | true => exact ⟨_, hk, fun p w _ _ => by unfold execOp; simp only [ho, hfit.ent hx, hfit.ent hc, Ent.val]; rfl⟩
            | false => exact ⟨_, hk, fun p w _ _ => by unfold execOp; simp only [ho, hfit.ent hy, hfit.ent hc, Ent.val]; rfl⟩
  | _ =>
    have h : opDG P E T hi o K := by simpa only [opD, ho] using h
    unfold opDG at h
    cases hkn : kn E (opnds o.op) with
    | false => rw [hkn] at h; exact h.elim
    | true =>
      rw [hkn] at h
      rw [execOp_congr (ρ := a.eval) (ρ' := E.ev) o hs (hfit.kn hs hkn)]
      simp only [cond_true] at h
      cases hsm : opSem o.type E.ev o.op with
      | none => rw [hsm] at h; exact h.elim
      | some s =>
        rw [hsm] at h
        simp only at h
        cases hb : isPure o.op with
        | true =>
          rw [hb] at h
          obtain ⟨v, hv, h⟩ := h
          exact ⟨_, h, fun p w _ _ => opSem_run hsm (hv w)⟩
        | false =>
          rw [hb] at h
          obtain ⟨v, hv, h⟩ := h
          exact ⟨_, h, fun p w hp hT => opSem_run hsm (hv p w hp hT)⟩
theorem vcD_sound {N : Nat} {K : Env → World → Prop} {R : Act → Prop} (hR : ∀ a o v, o ∈ ops → R a → R (a.put o.dst v)) (hQ : ∀ E a w, Fits N E a → R a → K E w → Q .normal a w) (hQp : ∀ c a w, ¬ Q (.panic c) a w) (hd : dstsOk N ops.toList = true) :
    ∀ (l : St) (p : Nat) (L : Array Bool), stepsOk ops.toList C l p L.toList = true → nC C L.toList = p → Closed ops L → ∀ (E : Env) (a : Act) (w : World), Fits N E a → R a → T p w →
      vcD P ops.toList T l p E w K → wpP F n P ops Q T C l.len L a w := by
  have hdst : ∀ {i : Nat} {o : Oper}, ops[i]? = some o → dstOk N o.dst = true := fun hi => List.all_eq_true.1 hd _ (Array.mem_toList_iff.2 (Array.mem_of_getElem? hi))
  intro l
  have oneS : ∀ (r : St), (∀ (p : Nat) (L : Array Bool), stepsOk ops.toList C r p L.toList = true → nC C L.toList = p → Closed ops L → ∀ (E : Env) (a : Act) (w : World), Fits N E a → R a → T p w → vcD P ops.toList T r p E w K → wpP F n P ops Q T C r.len L a w) →
      ∀ (i p : Nat) (L : Array Bool), i ∈ Region.ready .any ops L → oneOk C i p L.toList = true → stepsOk ops.toList C r (p + 1) (L.toList.set i true) = true → Closed ops L → ∀ (E : Env) (a : Act) (w : World), Fits N E a → R a →
      oneD P ops.toList T i p E w (fun E w => vcD P ops.toList T r (p + 1) E w K) → wpOpIn F n P ops Q i (wpP F n P ops Q T C r.len (L.setIfInBounds i true)) a w := by
    intro r ih i p L hmem hn hc hcl E a w hfit hra h
    have hset : (L.setIfInBounds i true).toList = L.toList.set i true := by simp
    obtain ⟨hiun, oi, hoi, _⟩ := mem_ready.1 hmem
    have hom : oi ∈ ops := Array.mem_of_getElem? hoi
    simp only [oneD, Array.getElem?_toList, hoi] at h
    have hn' : nC C (L.setIfInBounds i true).toList = p + 1 := by rw [hset]; exact beq_iff'.1 hn
    unfold Go.wpOpIn
    simp only [hoi]
    rcases grd_sound hfit h with ⟨hw, E', hf, hr'⟩ | ⟨hw, E', hf, hr'⟩
    · rw [if_pos hw]
      exact opVc_sound hF hf hr' fun e w' he => ih (p + 1) _ (by rw [hset]; exact hc) hn' (hcl.step hmem) _ _ _ (hf.put (hdst hoi) e) (hR _ _ _ hom hra) he.1 he.2
    · rw [if_neg (by simp [hw])]
      exact ⟨fun f _ => hF.all f, ih (p + 1) _ (by rw [hset]; exact hc) hn' (hcl.step hmem) _ _ _ (hf.put (hdst hoi) .un) (hR _ _ _ hom hra) hr'.1 hr'.2⟩
  induction l with
  | nil =>
    intro p L hc hp hcl E a w hfit hra hT h
    have hr : Region.ready .any ops L = [] := by rw [ready_eq]; simpa [stepsOk] using hc
    exact wpP_done hr (hp ▸ hT) (hQ E a w hfit hra h)
  | tk i hi r ih =>
    intro p L hc hp hcl E a w hfit hra hT h
    simp only [stepsOk, Bool.and_eq_true] at hc
    obtain ⟨⟨⟨⟨hfree, hrd⟩, hC⟩, hh⟩, hc⟩ := hc
    rw [memN_iff, ← ready_eq] at hrd
    have hC : i ∉ C := fun hm => by rw [memN_iff.2 hm] at hC; cases hC
    obtain ⟨hiun, oi, hoi, _⟩ := mem_ready.1 hrd
    have hom : oi ∈ ops := Array.mem_of_getElem? hoi
    simp only [vcD, Array.getElem?_toList, hoi] at h
    have hset : (L.setIfInBounds i true).toList = L.toList.set i true := by simp
    rcases grd_sound hfit h with ⟨hw, E', hf, hr⟩ | ⟨hw, E', hf, hr⟩
    · obtain ⟨e, hr, hy⟩ := opD_sound hf hr (plainL_spec hpl hoi).2
      exact wpP_first hF hpl hoi hC hh hQp _ _ _ _ (freeL_spec hoi hfree) hcl hrd (.inl ⟨hw, hy⟩)
        (ih p _ (by rw [hset]; exact hc) (by rw [nC_set hC]; exact hp) (hcl.step hrd) _ _ _ (hf.put (hdst hoi) e) (hR _ _ _ hom hra) hT hr)
    · exact wpP_first hF hpl hoi hC hh hQp _ _ _ _ (freeL_spec hoi hfree) hcl hrd (.inr ⟨hw, rfl⟩)
        (ih p _ (by rw [hset]; exact hc) (by rw [nC_set hC]; exact hp) (hcl.step hrd) _ _ _ (hf.put (hdst hoi) .un) (hR _ _ _ hom hra) hT hr)
  | one i r ih =>
    intro p L hc hp hcl E a w hfit hra hT h
    simp only [stepsOk, Bool.and_eq_true] at hc
    obtain ⟨⟨hrd, hn⟩, hc⟩ := hc
    have hr : Region.ready .any ops L = [i] := by
      rw [ready_eq]
      generalize readyL ops.toList L.toList = q at hrd
      match q, hrd with
      | [j], hrd => rw [beq_iff'.1 hrd]
    have hmem : i ∈ Region.ready .any ops L := by rw [hr]; simp
    refine ⟨hp ▸ hT, fun h0 => (by rw [hr] at h0; cases h0), fun j hj => ?_⟩
    rw [hr] at hj
    simp at hj
    subst hj
    exact oneS r ih _ _ _ hmem hn hc hcl _ _ _ hfit hra h
  | two i r k q ihr ihq =>
    intro p L hc hp hcl E a w hfit hra hT h
    simp only [stepsOk, Bool.and_eq_true] at hc
    obtain ⟨⟨⟨hrd, hn1, hc1⟩, hn2, hc2⟩, hlen⟩ := hc
    have hr : Region.ready .any ops L = [i, k] := by
      rw [ready_eq]
      generalize readyL ops.toList L.toList = q at hrd
      match q, hrd with
      | [a, b], hrd =>
        simp only [Bool.and_eq_true] at hrd
        rw [beq_iff'.1 hrd.1, beq_iff'.1 hrd.2]
    refine ⟨hp ▸ hT, fun h0 => (by rw [hr] at h0; cases h0), fun j hj => ?_⟩
    have hmem := hj
    rw [hr] at hj
    simp at hj
    rcases hj with rfl | rfl
    · exact oneS r ihr _ _ _ hmem hn1 hc1 hcl _ _ _ hfit hra h.1
    · have := oneS q ihq _ _ _ hmem hn2 hc2 hcl _ _ _ hfit hra h.2
      rw [← beq_iff'.1 hlen] at this
      exact this
end draw
theorem vcDraw_sound (hF : OkF F) (hm : P.follows .mixedOrders = true) {N : Nat} {id : Nat} {ops : Array Oper} {K : Env → World → Prop} {Q : Exit → Act → World → Prop} {R : Act → Prop} (hR : ∀ a o v, o ∈ ops → R a → R (a.put o.dst v)) (hQ : ∀ E a w, Fits N E a → R a → K E w → Q .normal a w)
    (hQp : ∀ c a w, ¬ Q (.panic c) a w) (hd : dstsOk N ops.toList = true) {l : St} (hl : drawOk ops.toList l = true) {E : Env} {a : Act} {w : World} (hfit : Fits N E a) (hra : R a)
    (h : drw w fun T w' => vcD P ops.toList T l 0 E w' K) : (Code.region id ops true).wpIn F n P Q a w := by
  unfold drawOk at hl
  simp only [Bool.and_eq_true] at hl
  obtain ⟨⟨hpl, hlen⟩, hst⟩ := hl
  obtain ⟨T, hT, h⟩ := h
  refine wpIn_region_any hm (wpP.any (T := T) (C := ones l) ?_)
  rw [← Array.length_toList, ← beq_iff'.1 hlen]
  refine vcD_sound hF hpl hR hQ hQp hd l 0 _ ?_ ?_ ?_ E a _ hfit hra hT h
  · rw [beq_iff'.1 hlen]; simpa using hst
  · simp only [nC]
    rw [List.countP_eq_zero]
    intro c _
    simp [List.getD_eq_getElem?_getD, List.getElem?_replicate]
    split <;> simp
  · intro c o _ hc
    rw [Array.getD_eq_getD_getElem?, Array.getElem?_replicate] at hc
    split at hc <;> cases hc
theorem gd_iff {v : Value} {want : Bool} {A B : Prop} : gd v want A B ↔ ∃ b, v = .bool b ∧ (b = want → A) ∧ (b = !want → B) := Iff.rfl
theorem puR_iff {r : World → Result Value} {K : Value → Prop} : puR r K ↔ ∃ v, (∀ w, r w = .ok v w) ∧ K v := Iff.rfl
theorem pu_iff {s : Sem Value} {K : Value → Prop} : pu P s K ↔ ∃ v, (∀ w, s.run P w = .ok v w) ∧ K v := Iff.rfl
theorem tk_iff {T : Nat → World → Prop} {hi : Nat} {s : Sem Value} {K : Value → Prop} : tk P T hi s K ↔ ∃ v, (∀ p w, p ≤ hi → T p w → s.run P w = .ok v w) ∧ K v := Iff.rfl
theorem ph_iff {T : Nat → World → Prop} {p : Nat} {w : World} {X : Prop} : ph T p w X ↔ T p w ∧ X := Iff.rfl
theorem drw_iff {w : World} {B : (Nat → World → Prop) → World → Prop} : drw w B ↔ ∃ T : Nat → World → Prop, T 0 w.drew ∧ B T w.drew := Iff.rfl
theorem two_iff {A B : Prop} : two A B ↔ A ∧ B := Iff.rfl
attribute [irreducible] gd puR pu tk ph drw two
end Go.Proofs.YtipeanblfjimdaaDoor
