/- Digits, at least so many. No program in sight. -/
import Derived.Lib.ItoaNum
import Derived.Lib.Repeat
namespace Go.Proofs.YtipeanblfjimdaaDoor
open Go.Lib

def lowD : Nat → Nat → List UInt8
  | _, 0 => []
  | n, j + 1 => lowD (n / 10) j ++ [UInt8.ofNat (48 + n % 10)]
theorem lowD_length (j : Nat) : ∀ n, (lowD n j).length = j := by
  induction j with
  | zero => intro n; rfl
  | succ j ih => intro n; simp [lowD, ih]
theorem lowD_more (j : Nat) : ∀ n, lowD n (j + 1) = UInt8.ofNat (48 + n / 10 ^ j % 10) :: lowD n j := by
  induction j with
  | zero => intro n; simp [lowD]
  | succ j ih =>
    intro n
    have h1 := ih (n / 10)
    have e : lowD n (j + 2) = lowD (n / 10) (j + 1) ++ [UInt8.ofNat (48 + n % 10)] := rfl
    rw [e, h1, Nat.div_div_eq_div_mul, Nat.pow_succ, Nat.mul_comm (10 ^ j) 10]
    rfl
theorem decDigits_low (n : Nat) : decDigits n = lowD n (nDigits n) := by
  induction n using Nat.strongRecOn with
  | _ n ih =>
    by_cases h : n < 10
    · rw [decDigits, dif_pos h, nDigits_small h]
      simp [lowD, Nat.mod_eq_of_lt h]
    · rw [decDigits, dif_neg h, nDigits_big h, ih (n / 10) (by omega)]
      rfl
theorem nDigits_le (j : Nat) : ∀ u, u < 10 ^ (j + 1) → nDigits u ≤ j + 1 := by
  induction j with
  | zero => intro u h; rw [nDigits_small (by simpa using h)]; exact Nat.le_refl _
  | succ j ih =>
    intro u h
    by_cases h10 : u < 10
    · rw [nDigits_small h10]; omega
    · rw [nDigits_big h10]
      have := ih (u / 10) (by rw [Nat.pow_succ] at h; omega)
      omega
theorem lt_nDigits {j u : Nat} (h : 10 ^ j ≤ u) : j < nDigits u := (Nat.pow_lt_pow_iff_right (by decide)).1 (Nat.lt_of_le_of_lt h (lt_pow_nDigits u))
theorem lowD_pad (k : Nat) : ∀ (j n : Nat), n < 10 ^ j → List.replicate k 48 ++ lowD n j = lowD n (j + k) := by
  induction k with
  | zero => intro j n _; simp
  | succ k ih =>
    intro j n h
    have h2 := ih j n h
    have e := lowD_more (j + k) n
    have hz : n / 10 ^ (j + k) = 0 := Nat.div_eq_of_lt (Nat.lt_of_lt_of_le h (Nat.pow_le_pow_right (by decide) (by omega)))
    rw [hz] at e
    rw [show j + (k + 1) = j + k + 1 by omega, e, ← h2]
    rfl
/-- A number, with at least so many digits. -/
def padD (n least : Nat) : List UInt8 := lowD n (max (nDigits n) least)
theorem pad_itoa (n least : Nat) : List.replicate (least - nDigits n) 48 ++ decDigits n = padD n least := by
  rw [decDigits_low, lowD_pad _ _ _ (lt_pow_nDigits n)]
  unfold padD
  congr 1
  omega
theorem low_pad {n j least : Nat} (h1 : n / 10 ^ j = 0) (h2 : least ≤ j) (h3 : 1 ≤ least) (h4 : j ≤ max (nDigits n) least) : lowD n j = padD n least := by
  unfold padD
  congr 1
  have hp : 0 < 10 ^ j := Nat.pow_pos (by decide)
  have hn : n < 10 ^ j := by
    rcases Nat.lt_or_ge n (10 ^ j) with h | h
    · exact h
    · have := Nat.div_pos h hp
      omega
  have := nDigits_le (j - 1) n (by rw [show j - 1 + 1 = j by omega]; exact hn)
  omega
end Go.Proofs.YtipeanblfjimdaaDoor
