/- A byte of a chain that is turned: in plain Lean. No program in sight. -/
import Derived.Test.YtchmcjimnliodaaFrameQ
namespace Go.Proofs.Ytchmcjimnliodaa

theorem cbit_inj {a b : BitVec 32} (h : cbit a = cbit b) : a = b := by
  have hb : ∀ x : BitVec 32, (cbit x).getLsbD 31 = x.getLsbD 0 := by
    intro x
    unfold cbit
    cases hx : x.getLsbD 0
    · simp
    · simp
  have h0 : a.getLsbD 0 = b.getLsbD 0 := by rw [← hb a, ← hb b, h]
  have hs : a >>> 1 = b >>> 1 := by
    unfold cbit at h
    rw [h0] at h
    cases hx : b.getLsbD 0
    · rw [hx] at h; exact h
    · rw [hx] at h; exact (BitVec.xor_left_inj _).1 h
  apply BitVec.eq_of_getLsbD_eq
  intro i hi
  cases i with
  | zero => exact h0
  | succ i =>
    have := congrArg (fun x => x.getLsbD i) hs
    simp [BitVec.getLsbD_ushiftRight] at this
    rw [Nat.add_comm] at this
    exact this
theorem cbits_inj (k : Nat) {a b : BitVec 32} (h : cbits k a = cbits k b) : a = b := by
  induction k with
  | zero => exact h
  | succ k ih => exact ih (cbit_inj h)
theorem cstep_inj {a b : BitVec 32} {c : UInt8} (h : cstep a c = cstep b c) : a = b := (BitVec.xor_left_inj _).1 (cbits_inj 8 h)
theorem cstep_inj2 {a : BitVec 32} {c d : UInt8} (h : cstep a c = cstep a d) : c = d := by
  have h1 := (BitVec.xor_right_inj _).1 (cbits_inj 8 h)
  have h2 := congrArg BitVec.toNat h1
  simp at h2
  have := c.toNat_lt
  have := d.toNat_lt
  exact UInt8.toNat_inj.1 (by omega)
theorem foldl_cstep_inj (l : List UInt8) : ∀ {a b : BitVec 32}, l.foldl cstep a = l.foldl cstep b → a = b := by
  induction l with
  | nil => intro a b h; exact h
  | cons c l ih => intro a b h; exact cstep_inj (ih h)
/-- One byte turned: another sum. -/
theorem more_turn (s : BitVec 32) (x z : List UInt8) {c d : UInt8} (h : c ≠ d) : more s (x ++ c :: z) ≠ more s (x ++ d :: z) := by
  intro e
  unfold more at e
  have e1 := BitVec.not_inj.1 e
  rw [List.foldl_append, List.foldl_append, List.foldl_cons, List.foldl_cons] at e1
  exact h (cstep_inj2 (foldl_cstep_inj z e1))
theorem four_inj {a b : BitVec 32} (h : four a = four b) : a = b := by
  unfold four at h
  injection h with h1 h; injection h with h2 h; injection h with h3 h; injection h with h4 _
  have k1 := congrArg UInt8.toNat h1
  have k2 := congrArg UInt8.toNat h2
  have k3 := congrArg UInt8.toNat h3
  have k4 := congrArg UInt8.toNat h4
  simp only [UInt8.toNat_ofNat'] at k1 k2 k3 k4
  have := a.isLt
  have := b.isLt
  exact BitVec.eq_of_toNat_eq (by omega)
/-- A frame with a byte turned, not where its length stands, is none. -/
theorem nxt_turn (s : BitVec 32) (r : Rec) (z : List UInt8) (hd : r.d.length ≤ 1024) (p : Nat) (hp : p < (frameb s r).length) (hn : ¬ (2 ≤ p ∧ p < 2 + (num r.d.length).length)) (y : UInt8) (hy : y ≠ (frameb s r)[p]) :
    ∃ e, nxt s ((frameb s r).set p y ++ z) = .error e := by
  obtain ⟨k, d⟩ := r
  obtain ⟨q, hq⟩ : ∃ q, q = four (more s (headb ⟨k, d⟩)) := ⟨_, rfl⟩
  have hql : q.length = 4 := by rw [hq]; rfl
  have e0 : frameb s ⟨k, d⟩ = headb ⟨k, d⟩ ++ q := by rw [frameb, hq]
  have hhl : (headb ⟨k, d⟩).length = 2 + (num d.length).length + d.length := by simp [headb]; omega
  simp only [e0] at hp hy ⊢
  by_cases h0 : p = 0
  · subst h0
    refine ⟨2, ?_⟩
    simp [headb] at hy
    simp [headb, nxt, hy]
  · by_cases hsum : (headb ⟨k, d⟩).length ≤ p
    · refine ⟨5, ?_⟩
      rw [List.set_append_right _ _ hsum, List.append_assoc, nxt_whole s k d _ z hd (by simp [hql])]
      rw [if_neg]
      intro e
      rw [← hq] at e
      have hlt : p - (headb ⟨k, d⟩).length < q.length := by simp at hp; omega
      have := congrArg (fun l => l[p - (headb ⟨k, d⟩).length]?) e
      simp [hlt] at this
      rw [List.getElem_append_right hsum] at hy
      exact hy this
    · rw [List.getElem_append_left (by omega)] at hy
      rw [List.set_append_left _ _ (by omega), List.append_assoc]
      have hset : ∀ r' : Rec, r'.d.length = d.length → headb r' = (headb ⟨k, d⟩).set p y → ∃ e, nxt s ((headb ⟨k, d⟩).set p y ++ (q ++ z)) = .error e := by
        intro r' hl' he
        refine ⟨5, ?_⟩
        rw [← he]
        obtain ⟨k', d'⟩ := r'
        rw [nxt_whole s k' d' q z (by simp at hl' hd; omega) hql, if_neg]
        intro e
        rw [hq] at e
        have e2 := four_inj e
        rw [he] at e2
        have h1 : headb ⟨k, d⟩ = (headb ⟨k, d⟩).take p ++ (headb ⟨k, d⟩)[p] :: (headb ⟨k, d⟩).drop (p + 1) := by
          rw [← List.drop_eq_getElem_cons (by omega), List.take_append_drop]
        have h2 : (headb ⟨k, d⟩).set p y = (headb ⟨k, d⟩).take p ++ y :: (headb ⟨k, d⟩).drop (p + 1) := List.set_eq_take_append_cons_drop ▸ by simp; omega
        rw [h2] at e2
        exact more_turn s _ _ (Ne.symm hy) (by rw [← h1]; exact e2)
      by_cases h1 : p = 1
      · subst h1
        exact hset ⟨y, d⟩ rfl (by simp [headb])
      · have hp2 : 2 + (num d.length).length ≤ p := by
          simp only at hn; omega
        refine hset ⟨k, d.set (p - (2 + (num d.length).length)) y⟩ (by simp) ?_
        have e3 : headb ⟨k, d⟩ = (197 :: k :: num d.length) ++ d := by simp [headb]
        rw [e3, List.set_append_right _ _ (by simp; omega)]
        simp [headb]
        congr 1
        omega
end Go.Proofs.Ytchmcjimnliodaa
