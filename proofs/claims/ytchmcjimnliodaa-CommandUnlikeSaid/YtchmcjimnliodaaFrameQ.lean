/- Frames of chapter 3: what the laws say of them, in plain Lean. No program in sight. -/
import Derived.Test.YtchmcjimnliodaaFrameP
namespace Go.Proofs.Ytchmcjimnliodaa

theorem numBad_iff (sh : Nat) (c : UInt8) : numBad sh c = true ↔ 63 < sh ∨ (sh = 63 ∧ 1 < c.toNat) ∨ (c.toNat = 0 ∧ 0 < sh) := by
  simp [numBad]; omega
/-- What was read is how it would be written. -/
theorem dec_num (t : List UInt8) : ∀ k x, (dec (7 * k) x t).2.e = 0 → ∃ v, (dec (7 * k) x t).1 = x + v * 2 ^ (7 * k) ∧ num v ++ (dec (7 * k) x t).2.b = t ∧ (0 < k → v ≠ 0) := by
  induction t with
  | nil => intro k x h; simp [dec] at h
  | cons c t ih =>
    intro k x h
    by_cases hb : numBad (7 * k) c = true
    · rw [dec, if_pos hb] at h; simp at h
    · have hb' := hb
      rw [numBad_iff] at hb'
      rw [dec, if_neg hb] at h ⊢
      by_cases hc : c.toNat < 128
      · rw [if_pos hc]
        refine ⟨c.toNat, rfl, ?_, by omega⟩
        rw [num_small hc]; simp
      · rw [if_neg hc] at h ⊢
        rw [show 7 * k + 7 = 7 * (k + 1) by omega] at h ⊢
        obtain ⟨v, h1, h2, h3⟩ := ih (k + 1) _ h
        have hv := h3 (by omega)
        refine ⟨(c.toNat - 128) + 128 * v, ?_, ?_, by omega⟩
        · rw [h1, Nat.add_mul, Nat.add_assoc, show 2 ^ (7 * (k + 1)) = 128 * 2 ^ (7 * k) by rw [Nat.mul_add, Nat.pow_add, Nat.mul_comm]]
          congr 2
          rw [Nat.mul_comm v, Nat.mul_assoc, Nat.mul_assoc, Nat.mul_comm v]
        · have hlt := c.toNat_lt
          rw [num_big (by omega), show ((c.toNat - 128) + 128 * v) % 128 + 128 = c.toNat by omega, show ((c.toNat - 128) + 128 * v) / 128 = v by omega]
          simp [h2]
theorem dec_err (t : List UInt8) : ∀ sh x, (dec sh x t).2.e ≠ 0 → (dec sh x t).1 = 0 ∧ (dec sh x t).2.b = [] := by
  induction t with
  | nil => intro sh x _; simp [dec]
  | cons c t ih =>
    intro sh x h
    rw [dec] at h ⊢
    split at h
    · rename_i hb; simp [hb]
    · rename_i hb
      split at h
      · simp at h
      · rename_i hc; simp only [hb, hc, if_false]; exact ih _ _ h
theorem num_dec (v : Nat) : ∀ k x z, k ≤ 9 → v < 2 ^ (64 - 7 * k) → (0 < k → v ≠ 0) → dec (7 * k) x (num v ++ z) = (x + v * 2 ^ (7 * k), ⟨z, 0⟩) := by
  induction v using Nat.strongRecOn with
  | ind v ih =>
  intro k x z hk hv h0
  by_cases h : v < 128
  · rw [num_small h, List.singleton_append, dec]
    have ht : (UInt8.ofNat v).toNat = v := toNat_small (by omega)
    have hb : ¬ numBad (7 * k) (UInt8.ofNat v) = true := by
      rw [numBad_iff, ht]
      intro hc
      rcases hc with hc | ⟨hc, h1⟩ | ⟨hc, h1⟩
      · omega
      · have : k = 9 := by omega
        subst this
        simp at hv; omega
      · exact h0 (by omega) hc
    rw [if_neg hb, if_pos (by rw [ht]; exact h), ht]
  · have hlt : k < 9 := by
      rcases Nat.lt_or_ge k 9 with h9 | h9
      · exact h9
      · have : k = 9 := by omega
        subst this; simp at hv; omega
    have ht : (UInt8.ofNat (v % 128 + 128)).toNat = v % 128 + 128 := toNat_small (by omega)
    rw [num_big h, List.cons_append, dec]
    have hb : ¬ numBad (7 * k) (UInt8.ofNat (v % 128 + 128)) = true := by
      rw [numBad_iff, ht]; omega
    rw [if_neg hb, if_neg (by rw [ht]; omega), ht, show 7 * k + 7 = 7 * (k + 1) by omega]
    rw [ih (v / 128) (by omega) (k + 1) _ z (by omega) ?_ (by omega)]
    · rw [show 2 ^ (7 * (k + 1)) = 128 * 2 ^ (7 * k) by rw [Nat.mul_add, Nat.pow_add, Nat.mul_comm]]
      congr 1
      rw [Nat.add_assoc, ← Nat.mul_assoc, ← Nat.add_mul]
      congr 2
      omega
    · rw [show 64 - 7 * k = (64 - 7 * (k + 1)) + 7 by omega, Nat.pow_add] at hv
      omega
theorem dec_whole {v : Nat} (hv : v < 18446744073709551616) (z : List UInt8) : dec 0 0 (num v ++ z) = (v, ⟨z, 0⟩) := by
  have := num_dec v 0 0 z (by omega) (by simpa using hv) (by omega)
  simpa using this
theorem dec_cut (v : Nat) : ∀ sh x j, j < (num v).length → (dec sh x ((num v).take j)).2.e ≠ 0 := by
  induction v using Nat.strongRecOn with
  | ind v ih =>
  intro sh x j hj
  cases j with
  | zero => simp [dec]
  | succ j =>
    by_cases h : v < 128
    · rw [num_small h] at hj; simp at hj
    · rw [num_big h] at hj ⊢
      rw [List.take_succ_cons, dec]
      split
      · simp
      · have ht : (UInt8.ofNat (v % 128 + 128)).toNat = v % 128 + 128 := toNat_small (by omega)
        rw [if_neg (by rw [ht]; omega)]
        exact ih (v / 128) (by omega) _ _ j (by simpa using hj)
theorem count_val {t rest : List UInt8} {v : Nat} (h : dec 0 0 t = (v, ⟨rest, 0⟩)) (hv : v ≤ 1024) : Rs.count ⟨t, 0⟩ 1024 = (v, ⟨rest, 0⟩) := by
  have : Rs.num ⟨t, 0⟩ = (v, ⟨rest, 0⟩) := by simp [Rs.num, h]
  unfold Rs.count
  rw [this, if_neg (by simp; omega)]
theorem count_bad {t : List UInt8} (h : (dec 0 0 t).2.e ≠ 0) : Rs.count ⟨t, 0⟩ 1024 = (0, ⟨[], (dec 0 0 t).2.e⟩) := by
  have h1 := dec_err t 0 0 h
  have h2 : Rs.num ⟨t, 0⟩ = dec 0 0 t := by simp [Rs.num]
  unfold Rs.count
  rw [h2, h1.1, if_neg (by decide)]
  ext1
  · exact h1.1
  · rw [← h1.2]
theorem count_long {t rest : List UInt8} {v : Nat} (h : dec 0 0 t = (v, ⟨rest, 0⟩)) (hv : 1024 < v) : Rs.count ⟨t, 0⟩ 1024 = (0, ⟨[], 15⟩) := by
  have : Rs.num ⟨t, 0⟩ = (v, ⟨rest, 0⟩) := by simp [Rs.num, h]
  unfold Rs.count
  rw [this, if_pos (by simp; omega)]
  simp [Rs.fail]
theorem nxt_rest_bad (s : BitVec 32) (k : UInt8) {t : List UInt8} (h : (dec 0 0 t).2.e ≠ 0) : nxt s (197 :: k :: t) = .error (dec 0 0 t).2.e := by
  unfold nxt
  simp [count_bad h, h]
theorem nxt_rest_long (s : BitVec 32) (k : UInt8) {t rest : List UInt8} {v : Nat} (h : dec 0 0 t = (v, ⟨rest, 0⟩)) (hv : 1024 < v) : nxt s (197 :: k :: t) = .error 15 := by
  unfold nxt
  simp [count_long h hv]
theorem nxt_rest_short (s : BitVec 32) (k : UInt8) {t rest : List UInt8} {v : Nat} (h : dec 0 0 t = (v, ⟨rest, 0⟩)) (hv : v ≤ 1024) (hs : rest.length < v + 4) : nxt s (197 :: k :: t) = .error 4 := by
  unfold nxt
  simp [count_val h hv, Rs.left, hs]
theorem take_pre {α : Type} (l k : List α) (n : Nat) (h : n = l.length) : (l ++ k).take n = l := by subst h; simp
theorem drop_pre {α : Type} (l k : List α) (n : Nat) (h : n = l.length) : (l ++ k).drop n = k := by subst h; simp
/-- A record whose length is read well, and that is there whole. -/
theorem nxt_whole (s : BitVec 32) (k : UInt8) (d y z : List UInt8) (hd : d.length ≤ 1024) (hy : y.length = 4) :
    nxt s (headb ⟨k, d⟩ ++ (y ++ z)) = if y = four (more s (headb ⟨k, d⟩)) then .ok (⟨k, d⟩, (frameb s ⟨k, d⟩).length, frameSum s ⟨k, d⟩) else .error 5 := by
  have e0 : headb ⟨k, d⟩ ++ (y ++ z) = 197 :: k :: (num d.length ++ (d ++ (y ++ z))) := by simp [headb]
  have hdec := dec_whole (v := d.length) (by omega) (d ++ (y ++ z))
  have hc := count_val hdec hd
  have hat : (197 :: k :: (num d.length ++ (d ++ (y ++ z)))).length - (d ++ (y ++ z)).length = 2 + (num d.length).length := by simp; omega
  have hhl : (headb ⟨k, d⟩).length = 2 + (num d.length).length + d.length := by simp [headb]; omega
  have t1 : (197 :: k :: (num d.length ++ (d ++ (y ++ z)))).take (2 + (num d.length).length + d.length) = headb ⟨k, d⟩ := by
    rw [← e0]; exact take_pre _ _ _ hhl.symm
  have t2 : ((197 :: k :: (num d.length ++ (d ++ (y ++ z)))).drop (2 + (num d.length).length + d.length)).take 4 = y := by
    rw [← e0, drop_pre _ _ _ hhl.symm]; exact take_pre _ _ _ hy.symm
  have t3 : ((197 :: k :: (num d.length ++ (d ++ (y ++ z)))).drop (2 + (num d.length).length)).take d.length = d := by
    rw [show 197 :: k :: (num d.length ++ (d ++ (y ++ z))) = (197 :: k :: num d.length) ++ (d ++ (y ++ z)) by simp, drop_pre _ _ _ (by simp; omega)]
    exact take_pre _ _ _ rfl
  rw [e0]
  unfold nxt
  simp only [ne_eq, not_true_eq_false, if_false, hc, Rs.left, if_true, hat, t1, t2, t3]
  rw [if_neg (by simp; omega)]
  by_cases h : y = four (more s (headb ⟨k, d⟩))
  · rw [if_neg (by rw [h]; simp), if_pos h]
    simp [frameb, frameSum, hhl, four_length]
  · rw [if_pos (fun e => h e.symm), if_neg h]
theorem nxt_frame (s : BitVec 32) (r : Rec) (z : List UInt8) (hd : r.d.length ≤ 1024) : nxt s (frameb s r ++ z) = .ok (r, (frameb s r).length, frameSum s r) := by
  obtain ⟨k, d⟩ := r
  rw [show frameb s ⟨k, d⟩ ++ z = headb ⟨k, d⟩ ++ (four (more s (headb ⟨k, d⟩)) ++ z) by simp [frameb], nxt_whole s k d _ z hd rfl, if_pos rfl]
theorem nxt_cut (s : BitVec 32) (r : Rec) (hd : r.d.length ≤ 1024) (m : Nat) (hm : m < (frameb s r).length) : ∃ e, nxt s ((frameb s r).take m) = .error e := by
  obtain ⟨k, d⟩ := r
  have e0 : frameb s ⟨k, d⟩ = 197 :: k :: (num d.length ++ (d ++ four (more s (headb ⟨k, d⟩)))) := by simp [frameb, headb]
  rw [e0] at hm ⊢
  obtain ⟨y, hy⟩ : ∃ y, y = four (more s (headb ⟨k, d⟩)) := ⟨_, rfl⟩
  have hyl : y.length = 4 := by rw [hy]; rfl
  rw [← hy] at hm ⊢
  cases m with
  | zero => exact ⟨4, rfl⟩
  | succ m =>
    cases m with
    | zero => exact ⟨4, by simp [nxt]⟩
    | succ m =>
      rw [List.take_succ_cons, List.take_succ_cons]
      by_cases h : m < (num d.length).length
      · rw [List.take_append_of_le_length (by omega)]
        exact ⟨_, nxt_rest_bad s k (dec_cut _ _ _ _ h)⟩
      · rw [List.take_append]
        rw [List.take_of_length_le (by omega)]
        refine ⟨4, nxt_rest_short s k (dec_whole (by simp at hd; omega) _) hd ?_⟩
        simp only [List.length_cons, List.length_append, hyl] at hm
        simp only [List.length_take, List.length_append, hyl]
        omega
/-- The frames of a chain. -/
def chain (s : BitVec 32) : List Rec → List UInt8
  | [] => []
  | r :: l => frameb s r ++ chain (frameSum s r) l
def chainSum (s : BitVec 32) : List Rec → BitVec 32
  | [] => s
  | r :: l => chainSum (frameSum s r) l
/-- Where each record of a chain begins. -/
def starts (s : BitVec 32) (at_ : Nat) : List Rec → List Nat
  | [] => []
  | r :: l => at_ :: starts (frameSum s r) (at_ + (frameb s r).length) l
theorem starts_length (s : BitVec 32) (at_ : Nat) (l : List Rec) : (starts s at_ l).length = l.length := by
  induction l generalizing s at_ with
  | nil => rfl
  | cons r l ih => simp [starts, ih]
theorem chain_append (s : BitVec 32) (l k : List Rec) : chain s (l ++ k) = chain s l ++ chain (chainSum s l) k := by
  induction l generalizing s with
  | nil => rfl
  | cons r l ih => simp [chain, chainSum, ih]
theorem chainSum_append (s : BitVec 32) (l k : List Rec) : chainSum s (l ++ k) = chainSum (chainSum s l) k := by
  induction l generalizing s with
  | nil => rfl
  | cons r l ih => simp [chainSum, ih]
/-- A chain, and whatever is behind it. -/
theorem scan_chain (s : BitVec 32) (at_ : Nat) (l : List Rec) (z : List UInt8) (hl : ∀ r ∈ l, r.d.length ≤ 1024) :
    scan s at_ (chain s l ++ z) = ((starts s at_ l).zip l ++ (scan (chainSum s l) (at_ + (chain s l).length) z).1, (scan (chainSum s l) (at_ + (chain s l).length) z).2) := by
  induction l generalizing s at_ with
  | nil => simp [chain, chainSum, starts]
  | cons r l ih =>
    have h := nxt_frame s r (chain (frameSum s r) l ++ z) (hl r (by simp))
    have e1 : chain s (r :: l) ++ z = frameb s r ++ (chain (frameSum s r) l ++ z) := by simp [chain]
    rw [e1, scan_ok h, drop_pre _ _ _ rfl, ih (frameSum s r) _ (fun x hx => hl x (by simp [hx]))]
    simp [starts, chain, chainSum, Nat.add_assoc]
end Go.Proofs.Ytchmcjimnliodaa
