/- Frames of chapter 3 as plain Lean. No program in sight. -/
import Derived.Test.YtchmcjimnliodaaPlain
import Derived.Test.YtchmcjimnliodaaCrcP
namespace Go.Proofs.Ytchmcjimnliodaa

/-- A record. -/
structure Rec where
  k : UInt8
  d : List UInt8
/-- All of a frame but the sum. -/
def headb (r : Rec) : List UInt8 := [197, r.k] ++ (num r.d.length ++ r.d)
/-- A frame. -/
def frameb (s : BitVec 32) (r : Rec) : List UInt8 := headb r ++ four (more s (headb r))
def frameSum (s : BitVec 32) (r : Rec) : BitVec 32 := more s (headb r)
/-- The record that bytes begin with, how many bytes it has, and its sum. -/
def nxt (s : BitVec 32) (b : List UInt8) : Except Int (Rec × Nat × BitVec 32) :=
  match b with
  | [] => .error 4
  | c :: b1 => if c ≠ 197 then .error 2 else match b1 with
    | [] => .error 4
    | k :: rest =>
      let r := Rs.count ⟨rest, 0⟩ 1024
      if r.2.e ≠ 0 then .error r.2.e
      else
        let at_ := b.length - r.2.left
        if r.2.left < r.1 + 4 then .error 4
        else
          let s' := more s (b.take (at_ + r.1))
          if four s' ≠ (b.drop (at_ + r.1)).take 4 then .error 5
          else .ok (⟨k, (b.drop at_).take r.1⟩, at_ + r.1 + 4, s')
theorem dec_len (bs : List UInt8) : ∀ sh x, (dec sh x bs).2.b.length ≤ bs.length := by
  induction bs with
  | nil => intro sh x; simp [dec]
  | cons c t ih =>
    intro sh x
    rw [dec]
    split
    · simp
    · split
      · simp
      · have := ih (sh + 7) (x + (c.toNat - 128) * 2 ^ sh); simp; omega
theorem num_len (s : Rs) : s.num.2.b.length ≤ s.b.length := by
  unfold Rs.num; split
  · exact dec_len _ _ _
  · exact Nat.le_refl _
theorem count_len (s : Rs) (m : Int) : (s.count m).2.b.length ≤ s.b.length := by
  unfold Rs.count; split
  · unfold Rs.fail; split
    · simp
    · exact num_len s
  · exact num_len s
theorem count_le (s : Rs) {m : Int} (hm : 0 ≤ m) : ((s.count m).1 : Int) ≤ m := by
  unfold Rs.count; split
  · simpa using hm
  · omega
theorem left_le (s : Rs) : s.left ≤ s.b.length := by unfold Rs.left; split <;> omega
theorem nxt_len {s : BitVec 32} {b : List UInt8} {r : Rec} {n : Nat} {s' : BitVec 32} (h : nxt s b = .ok (r, n, s')) : 4 < n ∧ n ≤ b.length ∧ r.d.length ≤ 1024 := by
  unfold nxt at h
  cases b with
  | nil => cases h
  | cons c b1 =>
    dsimp only at h
    split at h
    · cases h
    · cases b1 with
      | nil => cases h
      | cons k rest =>
        dsimp only at h
        split at h
        · cases h
        · split at h
          · cases h
          · split at h
            · cases h
            · rename_i h1 h2 h3
              injection h with h
              injection h with hr h
              injection h with hn hs
              have hl : (Rs.count ⟨rest, 0⟩ 1024).2.left ≤ rest.length := Nat.le_trans (left_le _) (count_len _ _)
              have hc : ((Rs.count ⟨rest, 0⟩ 1024).1 : Int) ≤ 1024 := count_le ⟨rest, 0⟩ (m := 1024) (by decide)
              subst hr
              simp only [List.length_cons, List.length_take, List.length_drop] at *
              omega
/-- The records that a chain tells, and where each begins; how many bytes it has, and the last sum. -/
def scan (s : BitVec 32) (at_ : Nat) (b : List UInt8) : List (Nat × Rec) × Nat × BitVec 32 :=
  match nxt s b with
  | .error _ => ([], at_, s)
  | .ok (r, n, s') => if _h : 0 < n ∧ 0 < b.length then ((at_, r) :: (scan s' (at_ + n) (b.drop n)).1, (scan s' (at_ + n) (b.drop n)).2) else ([], at_, s)
termination_by b.length
decreasing_by all_goals (simp; omega)
theorem scan_err {s : BitVec 32} {at_ : Nat} {b : List UInt8} {e : Int} (h : nxt s b = .error e) : scan s at_ b = ([], at_, s) := by rw [scan, h]
theorem scan_ok {s : BitVec 32} {at_ : Nat} {b : List UInt8} {r : Rec} {n : Nat} {s' : BitVec 32} (h : nxt s b = .ok (r, n, s')) :
    scan s at_ b = ((at_, r) :: (scan s' (at_ + n) (b.drop n)).1, (scan s' (at_ + n) (b.drop n)).2) := by
  have := nxt_len h
  rw [scan, h]
  exact dif_pos (by omega)
theorem nxt_nil (s : BitVec 32) : nxt s [] = .error 4 := rfl
theorem dec_e (bs : List UInt8) : ∀ sh x, (dec sh x bs).2.e = 0 ∨ (dec sh x bs).2.e = 4 ∨ (dec sh x bs).2.e = 2 := by
  induction bs with
  | nil => intro sh x; simp [dec]
  | cons c t ih =>
    intro sh x
    rw [dec]
    split
    · simp
    · split
      · simp
      · exact ih _ _
theorem nxt_err_ne {s : BitVec 32} {b : List UInt8} {e : Int} (h : nxt s b = .error e) : e ≠ 0 := by
  unfold nxt at h
  cases b with
  | nil => cases h; decide
  | cons c b1 =>
    dsimp only at h
    split at h
    · cases h; decide
    · cases b1 with
      | nil => cases h; decide
      | cons k rest =>
        dsimp only at h
        split at h
        · rename_i h2; cases h; exact h2
        · split at h
          · cases h; decide
          · split at h
            · cases h; decide
            · cases h
end Go.Proofs.Ytchmcjimnliodaa
