/- Commands of chapter 18 and specs of chapter 14 as plain Lean: their bytes, and what is read. No program in sight. -/
import Derived.Test.YtchmcjimnliodaaFrameQ
namespace Go.Proofs.Ytchmcjimnliodaa

structure Sp where
  name : List UInt8
  tenant : List UInt8
  prio : Int
  delay : Int
  deps : List (List UInt8)
  base : Int
  cap : Int
  attempts : Int
  lease : Int
  cron : List UInt8
  catch_ : Int
def Sp.zero : Sp := ⟨[], [], 0, 0, [], 0, 0, 0, 0, [], 0⟩
structure Cm where
  kind : Int
  name : List UInt8
  worker : List UInt8
  token : Nat
  value : Int
  sp : Sp
def Cm.zero : Cm := ⟨0, [], [], 0, 0, Sp.zero⟩
def encT (s : List UInt8) : List UInt8 := num s.length ++ s
def encI (x : Int) : List UInt8 := num (fold x)
def Sp.enc (s : Sp) : List UInt8 :=
  encT s.name ++ encT s.tenant ++ encI s.prio ++ encI s.delay ++ num s.deps.length ++ s.deps.flatMap encT ++ encI s.base ++ encI s.cap ++ encI s.attempts ++ encI s.lease ++ encT s.cron ++ encI s.catch_
/-- The bytes of a command's fields, of its kind. -/
def Cm.fields (c : Cm) : List UInt8 :=
  if c.kind = 1 then c.sp.enc else if c.kind = 2 then encT c.worker else if c.kind = 3 ∨ c.kind = 5 then encT c.name ++ num c.token
  else if c.kind = 4 then encT c.name ++ num c.token ++ encI c.value else if c.kind = 6 ∨ c.kind = 7 ∨ c.kind = 8 then encT c.name else if c.kind = 9 then encI c.value else []
/-- With the fields of its kind alone. -/
def Cm.only (c : Cm) : Cm :=
  if c.kind = 1 then { Cm.zero with kind := c.kind, sp := c.sp } else if c.kind = 2 then { Cm.zero with kind := c.kind, worker := c.worker } else if c.kind = 3 ∨ c.kind = 5 then { Cm.zero with kind := c.kind, name := c.name, token := c.token }
  else if c.kind = 4 then { Cm.zero with kind := c.kind, name := c.name, token := c.token, value := c.value } else if c.kind = 6 ∨ c.kind = 7 ∨ c.kind = 8 then { Cm.zero with kind := c.kind, name := c.name }
  else if c.kind = 9 then { Cm.zero with kind := c.kind, value := c.value } else { Cm.zero with kind := c.kind }

/-! ### Read -/
def Rs.texts : Nat → List (List UInt8) → Rs → List (List UInt8) × Rs
  | 0, acc, s => (acc, s)
  | n + 1, acc, s => if (s.text 255).2.e = 0 then Rs.texts n (acc ++ [(s.text 255).1]) (s.text 255).2 else ([], (s.text 255).2)
def Rs.deps (s : Rs) : List (List UInt8) × Rs := Rs.texts (s.count 255).1 [] (s.count 255).2
def Rs.spec0 (s : Rs) : Sp × Rs :=
  let a := s.text 255; let b := a.2.text 255; let c := b.2.int; let d := c.2.int; let e := d.2.deps; let f := e.2.int; let g := f.2.int; let h := g.2.int; let i := h.2.int; let j := i.2.text 255; let k := j.2.int
  (⟨a.1, b.1, c.1, d.1, e.1, f.1, g.1, h.1, i.1, j.1, k.1⟩, k.2)
def Rs.spec (s : Rs) : Sp × Rs := if s.spec0.2.e = 0 then s.spec0 else (Sp.zero, s.spec0.2)
def Rs.cmd (kind : Int) (s : Rs) : Cm × Rs :=
  if kind = 1 then ({ Cm.zero with kind := kind, sp := s.spec.1 }, s.spec.2) else if kind = 2 then ({ Cm.zero with kind := kind, worker := (s.text 255).1 }, (s.text 255).2)
  else if kind = 3 ∨ kind = 5 then ({ Cm.zero with kind := kind, name := (s.text 255).1, token := (s.text 255).2.num.1 }, (s.text 255).2.num.2)
  else if kind = 4 then ({ Cm.zero with kind := kind, name := (s.text 255).1, token := (s.text 255).2.num.1, value := (s.text 255).2.num.2.int.1 }, (s.text 255).2.num.2.int.2)
  else if kind = 6 ∨ kind = 7 ∨ kind = 8 then ({ Cm.zero with kind := kind, name := (s.text 255).1 }, (s.text 255).2)
  else if kind = 9 then ({ Cm.zero with kind := kind, value := s.int.1 }, s.int.2) else ({ Cm.zero with kind := kind }, s)
/-- What was read of `s` is `x`, where nothing failed. -/
def Ate (s s' : Rs) (x : List UInt8) : Prop := s'.e = 0 → s.e = 0 ∧ s.b = x ++ s'.b
theorem Ate.refl (s : Rs) : Ate s s [] := fun h => ⟨h, rfl⟩
theorem Ate.trans {s s1 s2 : Rs} {x y : List UInt8} (h : Ate s s1 x) (k : Ate s1 s2 y) : Ate s s2 (x ++ y) := fun e => by
  obtain ⟨e1, b1⟩ := k e
  obtain ⟨e0, b0⟩ := h e1
  exact ⟨e0, by rw [b0, b1, List.append_assoc]⟩
theorem num_ate (s : Rs) : Ate s s.num.2 (num s.num.1) := by
  intro h
  unfold Rs.num at h ⊢
  split at h
  · rename_i h0
    rw [if_pos h0]
    obtain ⟨v, h1, h2, _⟩ := dec_num s.b 0 0 h
    refine ⟨h0, ?_⟩
    simp only [Nat.mul_zero, Nat.pow_zero, Nat.mul_one, Nat.zero_add] at h1 h2
    rw [h1]
    exact h2.symm
  · rename_i h0; exact absurd h h0
theorem int_ate (s : Rs) : Ate s s.int.2 (encI s.int.1) := by
  have := num_ate s
  unfold Rs.int encI
  rw [fold_unfold]
  exact this
theorem fail_e {s : Rs} {k : Int} (hk : k ≠ 0) : (s.fail k).e ≠ 0 := by
  unfold Rs.fail
  split
  · exact hk
  · assumption
theorem count_ate (s : Rs) (most : Int) : Ate s (s.count most).2 (num (s.count most).1) := by
  intro h
  unfold Rs.count at h ⊢
  split at h
  · exact absurd h (fail_e (by decide))
  · rename_i h0; rw [if_neg h0]; exact num_ate s h
theorem text_ate (s : Rs) (most : Int) : Ate s (s.text most).2 (encT (s.text most).1) := by
  intro h
  unfold Rs.text at h ⊢
  simp only at h ⊢
  split at h
  · rename_i h0
    rw [if_pos h0]
    split at h
    · rename_i h1
      rw [if_pos h1]
      obtain ⟨e0, b0⟩ := count_ate s most h0
      refine ⟨e0, ?_⟩
      simp only [encT, List.length_take, Nat.min_eq_left h1]
      rw [b0, List.append_assoc, List.take_append_drop]
    · cases h
  · rename_i h0; exact absurd h h0
theorem texts_ate : ∀ (n : Nat) (acc : List (List UInt8)) (s : Rs), (Rs.texts n acc s).2.e = 0 → ∃ l, (Rs.texts n acc s).1 = acc ++ l ∧ l.length = n ∧ s.e = 0 ∧ s.b = l.flatMap encT ++ (Rs.texts n acc s).2.b := by
  intro n
  induction n with
  | zero => intro acc s h; exact ⟨[], by simp [Rs.texts], rfl, h, by simp [Rs.texts]⟩
  | succ n ih =>
    intro acc s h
    unfold Rs.texts at h ⊢
    split at h
    · rename_i h0
      rw [if_pos h0]
      obtain ⟨l, h1, h2, h3, h4⟩ := ih _ _ h
      obtain ⟨e0, b0⟩ := text_ate s 255 h0
      refine ⟨(s.text 255).1 :: l, by rw [h1]; simp, by simp [h2], e0, ?_⟩
      rw [b0, h4]
      simp
    · rename_i h0; exact absurd h h0
theorem deps_ate (s : Rs) : Ate s s.deps.2 (num s.deps.1.length ++ s.deps.1.flatMap encT) := by
  intro h
  obtain ⟨l, h1, h2, h3, h4⟩ := texts_ate _ _ _ h
  obtain ⟨e0, b0⟩ := count_ate s 255 h3
  have e1 : s.deps.1 = l := by unfold Rs.deps; rw [h1]; rfl
  refine ⟨e0, ?_⟩
  rw [e1, h2, b0, h4, List.append_assoc]
  rfl
theorem spec_ate (s : Rs) : Ate s s.spec.2 s.spec.1.enc := by
  intro h
  unfold Rs.spec at h ⊢
  split at h
  · rename_i h0
    rw [if_pos h0]
    have := (((((((((text_ate s 255).trans (text_ate _ 255)).trans (int_ate _)).trans (int_ate _)).trans (deps_ate _)).trans (int_ate _)).trans (int_ate _)).trans (int_ate _)).trans (int_ate _)).trans (text_ate _ 255) |>.trans (int_ate _)
    obtain ⟨e0, b0⟩ := this h0
    refine ⟨e0, ?_⟩
    rw [b0]
    simp only [Sp.enc, List.append_assoc]
    rfl
  · rename_i h0; exact absurd h h0
theorem cmd_ate (kind : Int) (s : Rs) : Ate s (s.cmd kind).2 (s.cmd kind).1.fields ∧ (s.cmd kind).1.only = (s.cmd kind).1 ∧ (s.cmd kind).1.kind = kind := by
  unfold Rs.cmd Cm.fields Cm.only
  by_cases k1 : kind = 1
  · subst k1; simpa using spec_ate s
  by_cases k2 : kind = 2
  · subst k2; simpa using text_ate s 255
  by_cases k3 : kind = 3 ∨ kind = 5
  · have := (text_ate s 255).trans (num_ate _)
    simpa [k1, k2, k3] using this
  by_cases k4 : kind = 4
  · subst k4; simpa using ((text_ate s 255).trans (num_ate _)).trans (int_ate _)
  by_cases k6 : kind = 6 ∨ kind = 7 ∨ kind = 8
  · simpa [k1, k2, k3, k4, k6] using text_ate s 255
  by_cases k9 : kind = 9
  · subst k9; simpa using int_ate s
  · simpa [k1, k2, k3, k4, k6, k9] using Ate.refl s
structure Rq where
  client : Nat
  number : Nat
  c : Cm
def Rq.zero : Rq := ⟨0, 0, Cm.zero⟩
def Rq.enc (q : Rq) : List UInt8 := num q.client ++ num q.number ++ (num q.c.kind.toNat ++ q.c.fields)
/-- Of: what is read of bytes. -/
def ofB (b : List UInt8) : Rq × Int :=
  if 900 < b.length then (Rq.zero, 15) else
  let s0 : Rs := ⟨b, 0⟩
  let s1 := s0.num; let s2 := s1.2.num; let s3 := s2.2.num
  if s3.2.e = 0 ∧ 10 ≤ s3.1 then (Rq.zero, 2) else
  let s4 := s3.2.cmd s3.1
  if s4.2.fin = 0 then (⟨s1.1, s2.1, s4.1⟩, 0) else (Rq.zero, s4.2.fin)
theorem fin_zero {s : Rs} (h : s.fin = 0) : s.e = 0 ∧ s.b = [] := by
  unfold Rs.fin at h
  split at h
  · cases h
  · rename_i h0
    unfold Rs.left at h0
    rw [if_pos h] at h0
    exact ⟨h, List.eq_nil_of_length_eq_zero (by omega)⟩
theorem ofB_err {b : List UInt8} (h : (ofB b).2 ≠ 0) : (ofB b).1 = Rq.zero ∧ (b.length ≤ 900 ∨ (ofB b).2 = 15) := by
  unfold ofB at h ⊢
  split at h
  · rename_i h0; rw [if_pos h0]; exact ⟨rfl, .inr rfl⟩
  · rename_i h0
    rw [if_neg h0]
    simp only at h ⊢
    split at h
    · rename_i h1; rw [if_pos h1]; exact ⟨rfl, .inl (by omega)⟩
    · rename_i h1
      rw [if_neg h1]
      split at h
      · exact absurd rfl h
      · rename_i h2; rw [if_neg h2]; exact ⟨rfl, .inl (by omega)⟩
theorem ofB_ok {b : List UInt8} (h : (ofB b).2 = 0) : b.length ≤ 900 ∧ 0 ≤ (ofB b).1.c.kind ∧ (ofB b).1.c.kind ≤ 9 ∧ (ofB b).1.enc = b ∧ (ofB b).1.c.only = (ofB b).1.c := by
  unfold ofB at h ⊢
  split at h
  · cases h
  · rename_i h0
    rw [if_neg h0]
    simp only at h ⊢
    split at h
    · cases h
    · rename_i h1
      rw [if_neg h1]
      split at h
      · rename_i h2
        rw [if_pos h2]
        obtain ⟨e4, b4⟩ := fin_zero h2
        obtain ⟨c1, c2, c3⟩ := cmd_ate ((⟨b, 0⟩ : Rs).num.2.num.2.num.1 : Int) (⟨b, 0⟩ : Rs).num.2.num.2.num.2
        have := ((num_ate ⟨b, 0⟩).trans (num_ate _)).trans ((num_ate _).trans c1)
        obtain ⟨e0, b0⟩ := this e4
        obtain ⟨e3, _⟩ := c1 e4
        have hk : ¬ 10 ≤ (⟨b, 0⟩ : Rs).num.2.num.2.num.1 := fun h => h1 ⟨e3, h⟩
        refine ⟨by omega, ?_, ?_, ?_, c2⟩
        · rw [c3]; omega
        · rw [c3]; omega
        · rw [b4, List.append_nil] at b0
          unfold Rq.enc
          simp only
          rw [c3, Int.toNat_natCast]
          exact b0.symm
      · rename_i h2; exact absurd h h2
/-! ### Unlike requests have unlike bytes -/
theorem num_cancel {x y : Nat} {r r' : List UInt8} (hx : x < 18446744073709551616) (hy : y < 18446744073709551616) (h : num x ++ r = num y ++ r') : x = y ∧ r = r' := by
  have h1 := dec_whole hx r
  have h2 := dec_whole hy r'
  rw [h, h2] at h1
  simp only [Prod.mk.injEq, Rs.mk.injEq] at h1
  exact ⟨h1.1.symm, h1.2.1.symm⟩
theorem encT_cancel {x y : List UInt8} {r r' : List UInt8} (hx : x.length < 18446744073709551616) (hy : y.length < 18446744073709551616) (h : encT x ++ r = encT y ++ r') : x = y ∧ r = r' := by
  unfold encT at h
  rw [List.append_assoc, List.append_assoc] at h
  obtain ⟨h1, h2⟩ := num_cancel hx hy h
  exact List.append_inj h2 h1
theorem encI_cancel {x y : Int} {r r' : List UInt8} (hx : I64 x) (hy : I64 y) (h : encI x ++ r = encI y ++ r') : x = y ∧ r = r' := by
  obtain ⟨h1, h2⟩ := num_cancel (fold_lt hx) (fold_lt hy) h
  exact ⟨by rw [← unfold_fold x, h1, unfold_fold], h2⟩
/-- Alike, field by field, the specs by their bytes. -/
def Cm.like (a b : Cm) : Prop := a.kind = b.kind ∧ a.name = b.name ∧ a.worker = b.worker ∧ a.token = b.token ∧ a.value = b.value ∧ a.sp.enc = b.sp.enc
structure Cm.fit (c : Cm) : Prop where
  name : c.name.length < 18446744073709551616
  worker : c.worker.length < 18446744073709551616
  token : c.token < 18446744073709551616
  value : I64 c.value
theorem fields_like {a b : Cm} (ha : a.fit) (hb : b.fit) (hk : a.kind = b.kind) : a.fields = b.fields ↔ a.only.like b.only := by
  obtain ⟨k, n1, w1, t1, v1, s1⟩ := a
  obtain ⟨k', n2, w2, t2, v2, s2⟩ := b
  simp only at hk
  subst hk
  obtain ⟨hn1, hw1, ht1, hv1⟩ := ha
  obtain ⟨hn2, hw2, ht2, hv2⟩ := hb
  simp only at hn1 hw1 ht1 hv1 hn2 hw2 ht2 hv2
  have tc : ∀ {x y : List UInt8}, x.length < 18446744073709551616 → y.length < 18446744073709551616 → encT x = encT y → x = y := fun hx hy h => (encT_cancel (r := []) (r' := []) hx hy (by simpa using h)).1
  have ic : ∀ {x y : Int}, I64 x → I64 y → encI x = encI y → x = y := fun hx hy h => (encI_cancel (r := []) (r' := []) hx hy (by simpa using h)).1
  have nc : ∀ {x y : Nat}, x < 18446744073709551616 → y < 18446744073709551616 → num x = num y → x = y := fun hx hy h => (num_cancel (r := []) (r' := []) hx hy (by simpa using h)).1
  unfold Cm.fields Cm.only Cm.like
  by_cases k1 : k = 1
  · subst k1; simp [Cm.zero]
  by_cases k2 : k = 2
  · subst k2; simp [Cm.zero]; exact ⟨tc hw1 hw2, fun h => by rw [h]⟩
  by_cases k3 : k = 3 ∨ k = 5
  · simp [k1, k2, k3, Cm.zero]
    constructor
    · intro h
      obtain ⟨e1, e2⟩ := encT_cancel hn1 hn2 h
      exact ⟨e1, nc ht1 ht2 e2⟩
    · rintro ⟨rfl, rfl⟩; rfl
  by_cases k4 : k = 4
  · subst k4
    simp [Cm.zero]
    constructor
    · intro h
      obtain ⟨e1, e2⟩ := encT_cancel hn1 hn2 h
      obtain ⟨e3, e4⟩ := num_cancel ht1 ht2 e2
      exact ⟨e1, e3, ic hv1 hv2 e4⟩
    · rintro ⟨rfl, rfl, rfl⟩; rfl
  by_cases k6 : k = 6 ∨ k = 7 ∨ k = 8
  · simp [k1, k2, k3, k4, k6, Cm.zero]; exact ⟨tc hn1 hn2, fun h => by rw [h]⟩
  by_cases k9 : k = 9
  · subst k9; simp [Cm.zero]; exact ⟨ic hv1 hv2, fun h => by rw [h]⟩
  · simp [k1, k2, k3, k4, k6, k9, Cm.zero]
theorem enc_like {p q : Rq} (hp : p.c.fit) (hq : q.c.fit) (h1 : p.client < 18446744073709551616) (h2 : q.client < 18446744073709551616) (h3 : p.number < 18446744073709551616) (h4 : q.number < 18446744073709551616)
    (k1 : 0 ≤ p.c.kind ∧ p.c.kind ≤ 9) (k2 : 0 ≤ q.c.kind ∧ q.c.kind ≤ 9) : p.enc = q.enc ↔ (p.client = q.client ∧ p.number = q.number ∧ p.c.only.like q.c.only) := by
  have ko : ∀ c : Cm, c.only.kind = c.kind := by
    intro c
    unfold Cm.only
    split <;> (try split) <;> (try split) <;> (try split) <;> (try split) <;> (try split) <;> rfl
  constructor
  · intro h
    unfold Rq.enc at h
    simp only [List.append_assoc] at h
    obtain ⟨e1, h⟩ := num_cancel h1 h2 h
    obtain ⟨e2, h⟩ := num_cancel h3 h4 h
    obtain ⟨e3, h⟩ := num_cancel (by omega) (by omega) h
    exact ⟨e1, e2, (fields_like hp hq (by omega)).1 h⟩
  · rintro ⟨e1, e2, e3⟩
    have hk : p.c.kind = q.c.kind := by
      have := e3.1
      rwa [ko, ko] at this
    unfold Rq.enc
    rw [e1, e2, hk, (fields_like hp hq hk).2 e3]
end Go.Proofs.Ytchmcjimnliodaa
