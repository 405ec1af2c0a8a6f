/- The octets of chapter 1 as plain Lean: what the writer puts, what the reader takes. No program in sight. -/
import Derived.KernelRfl
namespace Go.Proofs.Ytchmcjimnliodaa

/-- A number's bytes: seven bits each, the lowest first. -/
def num (x : Nat) : List UInt8 :=
  if h : x < 128 then [UInt8.ofNat x] else UInt8.ofNat (x % 128 + 128) :: num (x / 128)
termination_by x
decreasing_by omega
theorem num_small {x : Nat} (h : x < 128) : num x = [UInt8.ofNat x] := by rw [num, dif_pos h]
theorem num_big {x : Nat} (h : ¬ x < 128) : num x = UInt8.ofNat (x % 128 + 128) :: num (x / 128) := by rw [num, dif_neg h]
theorem num_pos (x : Nat) : 1 ≤ (num x).length := by
  by_cases h : x < 128
  · rw [num_small h]; simp
  · rw [num_big h]; simp
theorem num_length (k : Nat) : ∀ x, x < 128 ^ k → (num x).length ≤ max k 1 := by
  induction k with
  | zero => intro x hx; simp at hx; subst hx; rw [num_small (by omega)]; simp
  | succ k ih =>
    intro x hx
    by_cases h : x < 128
    · rw [num_small h]; simp
    · rw [num_big h]
      have := ih (x / 128) (by rw [Nat.pow_succ] at hx; omega)
      cases k with
      | zero => simp at hx; omega
      | succ k => simp only [List.length_cons]; omega
theorem num_length10 {x : Nat} (h : x < 18446744073709551616) : (num x).length ≤ 10 := by
  have := num_length 10 x (by omega)
  omega
theorem byte_low (y : Nat) : ((y : Int) % 256) = ((UInt8.ofNat y).toNat : Int) := by
  rw [UInt8.toNat_ofNat']; simp
theorem toNat_small {y : Nat} (h : y < 256) : (UInt8.ofNat y).toNat = y := by
  rw [UInt8.toNat_ofNat']; exact Nat.mod_eq_of_lt h
/-- An int64. -/
def I64 (x : Int) : Prop := -9223372036854775808 ≤ x ∧ x ≤ 9223372036854775807
/-- A signed number as a number. -/
def fold (x : Int) : Nat := if 0 ≤ x then (2 * x).toNat else (-2 * x - 1).toNat
/-- A number as a signed one. -/
def unfold (n : Nat) : Int := if n % 2 = 0 then ((n / 2 : Nat) : Int) else -((n / 2 : Nat) : Int) - 1
theorem fold_lt {x : Int} (h : I64 x) : fold x < 18446744073709551616 := by
  obtain ⟨h1, h2⟩ := h
  unfold fold; split <;> omega
theorem unfold_fold (x : Int) : unfold (fold x) = x := by
  unfold fold unfold; split <;> split <;> omega
theorem fold_unfold (n : Nat) : fold (unfold n) = n := by
  unfold fold unfold; split <;> split <;> omega
theorem unfold_i64 {n : Nat} (h : n < 18446744073709551616) : I64 (unfold n) := by
  unfold unfold I64; split <;> omega
/-- A reader: the bytes that are left, and the first error. -/
structure Rs where
  b : List UInt8
  e : Int
/-- May a byte stand at this place of a number? -/
def numBad (sh : Nat) (c : UInt8) : Bool := (63 < sh) || (sh == 63 && 1 < c.toNat) || (c.toNat == 0 && 0 < sh)
/-- A number that is read, `x` having been read below bit `sh`. -/
def dec (sh x : Nat) : List UInt8 → Nat × Rs
  | [] => (0, ⟨[], 4⟩)
  | c :: t => if numBad sh c = true then (0, ⟨[], 2⟩) else if c.toNat < 128 then (x + c.toNat * 2 ^ sh, ⟨t, 0⟩) else dec (sh + 7) (x + (c.toNat - 128) * 2 ^ sh) t
def Rs.fail (s : Rs) (k : Int) : Rs := if s.e = 0 then ⟨[], k⟩ else s
def Rs.one (s : Rs) : Nat × Rs := if s.e = 0 then (match s.b with | [] => (0, ⟨[], 4⟩) | c :: t => (c.toNat, ⟨t, 0⟩)) else (0, s)
def Rs.num (s : Rs) : Nat × Rs := if s.e = 0 then dec 0 0 s.b else (0, s)
def Rs.int (s : Rs) : Int × Rs := (unfold s.num.1, s.num.2)
def Rs.count (s : Rs) (most : Int) : Nat × Rs := if max most 0 < (s.num.1 : Int) then (0, s.num.2.fail 15) else s.num
def Rs.text (s : Rs) (most : Int) : List UInt8 × Rs :=
  let n := (s.count most).1
  let t := (s.count most).2
  if t.e = 0 then (if n ≤ t.b.length then (t.b.take n, ⟨t.b.drop n, 0⟩) else ([], ⟨[], 4⟩)) else ([], t)
def Rs.flag (s : Rs) : Bool × Rs := if 1 < s.one.1 then (false, s.one.2.fail 2) else (s.one.1 == 1, s.one.2)
def Rs.left (s : Rs) : Nat := if s.e = 0 then s.b.length else 0
def Rs.fin (s : Rs) : Int := if 0 < s.left then 15 else s.e
end Go.Proofs.Ytchmcjimnliodaa
