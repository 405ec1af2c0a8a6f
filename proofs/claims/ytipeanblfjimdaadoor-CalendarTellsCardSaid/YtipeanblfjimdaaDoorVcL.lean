/- A generator of verification conditions: the words of a walk. No program in sight. -/
import Derived.Test.YtipeanblfjimdaaDoorVcC
namespace Go.Proofs.YtipeanblfjimdaaDoor
open Go Go.RowKit

variable {P : Program} {w : World}
theorem onOk_ok (v : Value) (w : World) (K : Value → World → Prop) : onOk (.ok v w) K = K v w := rfl
theorem onOkU_ok (w : World) (K : World → Prop) : onOkU (.ok () w) K = K w := rfl
theorem onOk_ite (c : Prop) [Decidable c] (x y : Result Value) (K : Value → World → Prop) : onOk (if c then x else y) K = if c then onOk x K else onOk y K := by split <;> rfl
@[congr] theorem onOk_congr {r r' : Result Value} {K : Value → World → Prop} (h : r = r') : onOk r K = onOk r' K := by rw [h]
@[congr] theorem onOkU_congr {r r' : Result Unit} {K : World → Prop} (h : r = r') : onOkU r K = onOkU r' K := by rw [h]
@[congr] theorem val_congr {s : Sem Value} {K : Value → World → Prop} : val P s w K = val P s w K := rfl
@[congr] theorem unt_congr {s : Sem Unit} {K : World → Prop} : unt P s w K = unt P s w K := rfl
@[congr] theorem rd_congr {s : Sem Value} {K : Value → Prop} : rd P s w K = rd P s w K := rfl
@[congr] theorem pu_congr {s : Sem Value} {K : Value → Prop} : pu P s K = pu P s K := rfl
@[congr] theorem tk_congr {T : Nat → World → Prop} {hi : Nat} {s : Sem Value} {K : Value → Prop} : tk P T hi s K = tk P T hi s K := rfl
@[congr] theorem gd_congr {v v' : Value} {b : Bool} {A B : Prop} (h : v = v') : gd v b A B = gd v' b A B := by rw [h]
@[congr] theorem pick3_congr {v v' x x' y y' : Value} {K : Value → Prop} (h : v = v') (hx : x = x') (hy : y = y') : pick3 v x y K = pick3 v' x' y' K := by rw [h, hx, hy]
@[congr] theorem Ret_congr {f : FuncId} {a a' : Array Value} {K : Value → World → Prop} (h : a = a') : Ret P f a w K = Ret P f a' w K := by rw [h]
@[congr] theorem dyn_congr {f f' : Value} {a a' : List Value} {K : Value → World → Prop} (hf : f = f') (h : a = a') : dyn P f a w K = dyn P f' a' w K := by rw [h, hf]
@[congr] theorem joinK_congr {n : Nat} {R : Car n} {B : Car n → Prop} : joinK n R B = joinK n R B := rfl
@[congr] theorem joinD_congr {n : Nat} {R : List Nat → Car n} {B : (List Nat → Car n) → Prop} : joinD n R B = joinD n R B := rfl
@[congr] theorem loopK_congr {n : Nat} {i i' : List Value} {B : Car n → Car n} (h : i = i') : loopK n i w B = loopK n i' w B := by rw [h]
@[congr] theorem loopD_congr {n : Nat} {ds : List Nat} {i i' : List Value} {B : (List Nat → Car n) → List Nat → Car n} (h : i = i') : loopD n ds i w B = loopD n ds i' w B := by rw [h]
@[congr] theorem drw_congr {B : (Nat → World → Prop) → World → Prop} : drw w B = drw w B := rfl
@[congr] theorem ph_congr {T : Nat → World → Prop} {p : Nat} {X : Prop} : ph T p w X = ph T p w X := rfl
@[congr] theorem two_congr {A B : Prop} : two A B = two A B := rfl
@[congr] theorem Rng_congr {g g' : Value} {np : Nat} {B : (World → World → Exit → World → Prop) → Car np} {An : Nat → World → Prop} {L : List (Xt × (Nat → World → Prop))} (h : g = g') : Rng P g np w B An L = Rng P g' np w B An L := by rw [h]
@[congr] theorem puR_congr {r r' : World → Result Value} {K : Value → Prop} (h : ∀ w, r w = r' w) : puR r K = puR r' K := by rw [show r = r' from funext h]
theorem puR_ok (v : Value) (K : Value → Prop) : puR (fun w => .ok v w) K = K v := by
  apply propext
  constructor
  · intro hh
    obtain ⟨v', h, k⟩ := puR_iff.1 hh
    have := h default
    injection this with h1
    rw [h1]; exact k
  · intro k; exact puR_iff.2 ⟨v, fun _ => rfl, k⟩
/-- Ahead of the first change the world is the one in which the region began. -/
def atW (w : World) : Nat → World → Prop := fun p w' => p = 0 → w' = w
theorem tk_at (s : Sem Value) (w : World) (K : Value → Prop) : tk P (atW w) 0 s K = rd P s w K := by
  apply propext
  rw [rd_iff, tk_iff]
  constructor
  · rintro ⟨v, h, k⟩; exact ⟨v, h 0 w (Nat.le_refl _) (fun _ => rfl), k⟩
  · rintro ⟨v, h, k⟩
    refine ⟨v, fun p w' hp hT => ?_, k⟩
    have : p = 0 := by omega
    rw [hT this]; exact h
theorem drw_at {B : (Nat → World → Prop) → World → Prop} (h : B (atW w.drew) w.drew) : drw w B := drw_iff.2 ⟨atW w.drew, fun _ => rfl, h⟩
theorem ph_at {w0 : World} {p : Nat} {X : Prop} (h : X) : ph (atW w0) (p + 1) w X := ph_iff.2 ⟨fun e => by omega, h⟩
theorem gd_bool (b : Bool) (A B : Prop) : gd (.bool b) true A B = ((b = true → A) ∧ (b = false → B)) := by
  apply propext
  rw [gd_iff]
  constructor
  · rintro ⟨c, hc, h1, h2⟩; injection hc with hc; subst hc; exact ⟨h1, fun h => h2 (by rw [h]; rfl)⟩
  · rintro ⟨h1, h2⟩; exact ⟨b, rfl, h1, fun h => h2 (by cases b <;> first | rfl | cases h)⟩
theorem gd_bool' (b : Bool) (A B : Prop) : gd (.bool b) false A B = ((b = false → A) ∧ (b = true → B)) := by
  apply propext
  rw [gd_iff]
  constructor
  · rintro ⟨c, hc, h1, h2⟩; injection hc with hc; subst hc; exact ⟨h1, fun h => h2 (by rw [h]; rfl)⟩
  · rintro ⟨h1, h2⟩; exact ⟨b, rfl, h1, fun h => h2 (by cases b <;> first | rfl | cases h)⟩
theorem gd_true (A B : Prop) : gd (.bool true) true A B = A := by rw [gd_bool]; simp
theorem gd_false (A B : Prop) : gd (.bool false) true A B = B := by rw [gd_bool]; simp
theorem gd_true' (A B : Prop) : gd (.bool true) false A B = B := by rw [gd_bool']; simp
theorem gd_false' (A B : Prop) : gd (.bool false) false A B = A := by rw [gd_bool']; simp
theorem gd_dec {p : Prop} [Decidable p] {A B : Prop} (h1 : p → A) (h2 : ¬ p → B) : gd (.bool (decide p)) true A B := by
  rw [gd_bool]; exact ⟨fun h => h1 (by simpa using h), fun h => h2 (by simpa using h)⟩
theorem gd_dec' {p : Prop} [Decidable p] {A B : Prop} (h1 : ¬ p → A) (h2 : p → B) : gd (.bool (decide p)) false A B := by
  rw [gd_bool']; exact ⟨fun h => h1 (by simpa using h), fun h => h2 (by simpa using h)⟩
theorem gd_case {b : Bool} {A B : Prop} (h1 : b = true → A) (h2 : b = false → B) : gd (.bool b) true A B := by rw [gd_bool]; exact ⟨h1, h2⟩
theorem gd_case' {b : Bool} {A B : Prop} (h1 : b = false → A) (h2 : b = true → B) : gd (.bool b) false A B := by rw [gd_bool']; exact ⟨h1, h2⟩
theorem pick3_bool (b : Bool) (x y : Value) (K : Value → Prop) : pick3 (.bool b) x y K = K (bif b then x else y) := by
  apply propext
  unfold pick3
  constructor
  · rintro ⟨c, hc, h⟩; injection hc with hc; subst hc; exact h
  · intro h; exact ⟨b, rfl, h⟩
theorem join_in {n : Nat} {R : Car n} {B : Car n → Prop} (h : B R) : joinK n R B := joinK_iff.2 ⟨R, fun _ _ h => h, h⟩
theorem join_cut {n : Nat} {R : Car n} {B : Car n → Prop} (J : Car n) (hJ : ∀ vs w, app n J vs w → app n R vs w) (h : B J) : joinK n R B := joinK_iff.2 ⟨J, hJ, h⟩
theorem join0 {R : Car 0} {B : Car 0 → Prop} (J : World → Prop) (hJ : ∀ w, J w → (R : World → Prop) w) (h : B J) : joinK 0 R B :=
  joinK_iff.2 ⟨J, fun vs w h => by cases vs with | nil => exact hJ w h | cons _ _ => exact h.elim, h⟩
theorem join1 {R : Car 1} {B : Car 1 → Prop} (J : Value → World → Prop) (hJ : ∀ a w, J a w → (R : Value → World → Prop) a w) (h : B J) : joinK 1 R B :=
  joinK_iff.2 ⟨J, fun vs w h => by match vs, h with | [a], h => exact hJ a w h, h⟩
theorem join2 {R : Car 2} {B : Car 2 → Prop} (J : Value → Value → World → Prop) (hJ : ∀ a b w, J a b w → (R : Value → Value → World → Prop) a b w) (h : B J) : joinK 2 R B :=
  joinK_iff.2 ⟨J, fun vs w h => by match vs, h with | [a, b], h => exact hJ a b w h, h⟩
theorem join3 {R : Car 3} {B : Car 3 → Prop} (J : Value → Value → Value → World → Prop) (hJ : ∀ a b c w, J a b c w → (R : Value → Value → Value → World → Prop) a b c w) (h : B J) : joinK 3 R B :=
  joinK_iff.2 ⟨J, fun vs w h => by match vs, h with | [a, b, c], h => exact hJ a b c w h, h⟩
theorem join4 {R : Car 4} {B : Car 4 → Prop} (J : Value → Value → Value → Value → World → Prop) (hJ : ∀ a b c d w, J a b c d w → (R : Value → Value → Value → Value → World → Prop) a b c d w) (h : B J) : joinK 4 R B :=
  joinK_iff.2 ⟨J, fun vs w h => by match vs, h with | [a, b, c, d], h => exact hJ a b c d w h, h⟩
theorem loop0 {B : Car 0 → Car 0} (I : World → Prop) (μ : World → Nat) (h0 : I w) (hr : ∀ w, I w → (B (fun w' => I w' ∧ μ w' < μ w) : World → Prop) w) : loopK 0 [] w B :=
  loopK_iff.2 ⟨I, fun _ w => μ w, h0, fun vs w h => by match vs, h with | [], h => exact hr w h⟩
theorem loop1 {x : Value} {B : Car 1 → Car 1} (I : Value → World → Prop) (μ : Value → World → Nat) (h0 : I x w) (hr : ∀ a w, I a w → (B (fun a' w' => I a' w' ∧ μ a' w' < μ a w) : Value → World → Prop) a w) : loopK 1 [x] w B :=
  loopK_iff.2 ⟨I, fun vs w => match vs with | [a] => μ a w | _ => 0, h0, fun vs w h => by match vs, h with | [a], h => exact hr a w h⟩
theorem loop2 {x y : Value} {B : Car 2 → Car 2} (I : Value → Value → World → Prop) (μ : Value → Value → World → Nat) (h0 : I x y w)
    (hr : ∀ a b w, I a b w → (B (fun a' b' w' => I a' b' w' ∧ μ a' b' w' < μ a b w) : Value → Value → World → Prop) a b w) : loopK 2 [x, y] w B :=
  loopK_iff.2 ⟨I, fun vs w => match vs with | [a, b] => μ a b w | _ => 0, h0, fun vs w h => by match vs, h with | [a, b], h => exact hr a b w h⟩
theorem loop3 {x y z : Value} {B : Car 3 → Car 3} (I : Value → Value → Value → World → Prop) (μ : Value → Value → Value → World → Nat) (h0 : I x y z w)
    (hr : ∀ a b c w, I a b c w → (B (fun a' b' c' w' => I a' b' c' w' ∧ μ a' b' c' w' < μ a b c w) : Value → Value → Value → World → Prop) a b c w) : loopK 3 [x, y, z] w B :=
  loopK_iff.2 ⟨I, fun vs w => match vs with | [a, b, c] => μ a b c w | _ => 0, h0, fun vs w h => by match vs, h with | [a, b, c], h => exact hr a b c w h⟩
theorem loop4 {x y z u : Value} {B : Car 4 → Car 4} (I : Value → Value → Value → Value → World → Prop) (μ : Value → Value → Value → Value → World → Nat) (h0 : I x y z u w)
    (hr : ∀ a b c d w, I a b c d w → (B (fun a' b' c' d' w' => I a' b' c' d' w' ∧ μ a' b' c' d' w' < μ a b c d w) : Value → Value → Value → Value → World → Prop) a b c d w) : loopK 4 [x, y, z, u] w B :=
  loopK_iff.2 ⟨I, fun vs w => match vs with | [a, b, c, d] => μ a b c d w | _ => 0, h0, fun vs w h => by match vs, h with | [a, b, c, d], h => exact hr a b c d w h⟩
theorem ret_intro {f : FuncId} {a : Array Value} {R K : Value → World → Prop} (h : Ret P f a w R) (k : ∀ v w', R v w' → K v w') : Ret P f a w K := h.mono k

/-! ### Numbers that fit -/
theorem w_i64 (n : Int) (h1 : -9223372036854775808 ≤ n) (h2 : n ≤ 9223372036854775807) : IntKind.i64.wrap n = n := by rw [IntKind.wrap_i64]; omega
theorem w_u64 (n : Int) (h1 : 0 ≤ n) (h2 : n ≤ 18446744073709551615) : IntKind.u64.wrap n = n := by simp [IntKind.wrap, IntKind.bits, IntKind.signed]; omega
theorem w_u32 (n : Int) (h1 : 0 ≤ n) (h2 : n ≤ 4294967295) : IntKind.u32.wrap n = n := by rw [IntKind.wrap_u32]; omega
theorem w_u16 (n : Int) (h1 : 0 ≤ n) (h2 : n ≤ 65535) : IntKind.u16.wrap n = n := by simp [IntKind.wrap, IntKind.bits, IntKind.signed]; omega
theorem w_u8 (n : Int) (h1 : 0 ≤ n) (h2 : n ≤ 255) : IntKind.u8.wrap n = n := by rw [IntKind.wrap_u8]; omega
theorem w_i32 (n : Int) (h1 : -2147483648 ≤ n) (h2 : n ≤ 2147483647) : IntKind.i32.wrap n = n := by rw [IntKind.wrap_i32]; omega
theorem onOk_in {v : Value} {K : Value → World → Prop} (h : K v w) : onOk (.ok v w) K := h
theorem onOkU_in {K : World → Prop} (h : K w) : onOkU (.ok () w) K := h
theorem puR_in {v : Value} {K : Value → Prop} (h : K v) : puR (fun w => .ok v w) K := puR_iff.2 ⟨v, fun _ => rfl, h⟩
theorem val_run {s : Sem Value} {r : Result Value} {K : Value → World → Prop} (h : s.run P w = r) (k : onOk r K) : val P s w K := by unfold val; rw [h]; exact k
theorem unt_run {s : Sem Unit} {r : Result Unit} {K : World → Prop} (h : s.run P w = r) (k : onOkU r K) : unt P s w K := by unfold unt; rw [h]; exact k
theorem pu_run {s : Sem Value} {r : World → Result Value} {K : Value → Prop} (h : ∀ w, s.run P w = r w) (k : puR r K) : pu P s K := by unfold pu; rw [show (fun w => s.run P w) = r from funext h]; exact k
theorem gd_true_in {A B : Prop} (h : A) : gd (.bool true) true A B := by rw [gd_true]; exact h
theorem gd_false_in {A B : Prop} (h : B) : gd (.bool false) true A B := by rw [gd_false]; exact h
theorem gd_true_in' {A B : Prop} (h : B) : gd (.bool true) false A B := by rw [gd_true']; exact h
theorem gd_false_in' {A B : Prop} (h : A) : gd (.bool false) false A B := by rw [gd_false']; exact h

/-! ### Loads and stores, of one cell and of several -/
def ld1 (t : TypeId) (v : Value) : Sem Value := Instr.loadAt t v
def ldS (t : TypeId) (v : Value) : Sem Value := Instr.loadAt t v
def st1 (t : TypeId) (a v : Value) : Sem Unit := Instr.storeAt t a v
def stS (t : TypeId) (a v : Value) : Sem Unit := Instr.storeAt t a v
theorem ld1_eq (t : TypeId) (v : Value) : ld1 t v = Instr.loadAt t v := rfl
theorem ldS_eq (t : TypeId) (v : Value) : ldS t v = Instr.loadAt t v := rfl
theorem st1_eq (t : TypeId) (a v : Value) : st1 t a v = Instr.storeAt t a v := rfl
theorem stS_eq (t : TypeId) (a v : Value) : stS t a v = Instr.storeAt t a v := rfl
attribute [irreducible] ld1 ldS st1 stS
end Go.Proofs.YtipeanblfjimdaaDoor
