/- A chain that is cut, or of which a byte is turned: how many records are told. In plain Lean. No program in sight. -/
import Derived.Test.YtchmcjimnliodaaFrameT
namespace Go.Proofs.Ytchmcjimnliodaa

/-- Where the record at `i` begins. -/
def pos (s : BitVec 32) (l : List Rec) (i : Nat) : Nat := (chain s (l.take i)).length
theorem pos_zero (s : BitVec 32) (l : List Rec) : pos s l 0 = 0 := rfl
theorem pos_all (s : BitVec 32) (l : List Rec) : pos s l l.length = (chain s l).length := by simp [pos]
theorem chain_split (s : BitVec 32) (l : List Rec) (i : Nat) : chain s l = chain s (l.take i) ++ chain (chainSum s (l.take i)) (l.drop i) := by
  have h := congrArg (chain s) (List.take_append_drop i l)
  rw [chain_append] at h
  exact h.symm
theorem chain_at (s : BitVec 32) (l : List Rec) (i : Nat) (h : i < l.length) :
    chain s l = chain s (l.take i) ++ (frameb (chainSum s (l.take i)) l[i] ++ chain (frameSum (chainSum s (l.take i)) l[i]) (l.drop (i + 1))) := by
  rw [chain_split s l i, List.drop_eq_getElem_cons h, chain]
theorem pos_succ (s : BitVec 32) (l : List Rec) (i : Nat) (h : i < l.length) : pos s l (i + 1) = pos s l i + (frameb (chainSum s (l.take i)) l[i]).length := by
  unfold pos
  rw [List.take_succ_eq_append_getElem h, chain_append, List.length_append]
  simp [chain]
theorem sum_succ (s : BitVec 32) (l : List Rec) (i : Nat) (h : i < l.length) : chainSum s (l.take (i + 1)) = frameSum (chainSum s (l.take i)) l[i] := by
  rw [List.take_succ_eq_append_getElem h, chainSum_append]; rfl
theorem chain_succ (s : BitVec 32) (l : List Rec) (i : Nat) (h : i < l.length) : chain s (l.take (i + 1)) = chain s (l.take i) ++ frameb (chainSum s (l.take i)) l[i] := by
  rw [List.take_succ_eq_append_getElem h, chain_append]; simp [chain]
theorem starts_at (s : BitVec 32) (l : List Rec) : ∀ (at_ i : Nat), i < l.length → (starts s at_ l)[i]? = some (at_ + pos s l i) := by
  induction l generalizing s with
  | nil => intro at_ i h; simp at h
  | cons r l ih =>
    intro at_ i h
    cases i with
    | zero => simp [starts, pos, chain]
    | succ i =>
      simp only [starts, List.getElem?_cons_succ]
      rw [ih _ _ i (by simpa using h)]
      simp [pos, chain, Nat.add_assoc]
/-- Cut anywhere: a beginning. -/
theorem scan_cut (s : BitVec 32) (l : List Rec) (hl : ∀ r ∈ l, r.d.length ≤ 1024) (c k : Nat) (hk : k ≤ l.length) (h1 : pos s l k ≤ c) (h2 : k < l.length → c < pos s l (k + 1)) :
    (scan s 0 ((chain s l).take c)).1.length = k := by
  have hc : (chain s l).take c = chain s (l.take k) ++ (chain (chainSum s (l.take k)) (l.drop k)).take (c - pos s l k) := by
    rw [chain_split s l k, List.take_append, List.take_of_length_le h1]; rfl
  rw [hc, scan_chain s 0 (l.take k) _ (fun r hr => hl r (List.mem_of_mem_take hr))]
  have hrest : ∀ at_, (scan (chainSum s (l.take k)) at_ ((chain (chainSum s (l.take k)) (l.drop k)).take (c - pos s l k))).1 = [] := by
    intro at_
    by_cases hlt : k < l.length
    · have := h2 hlt
      rw [pos_succ s l k hlt] at this
      rw [List.drop_eq_getElem_cons hlt, chain, List.take_append_of_le_length (by omega)]
      obtain ⟨e, he⟩ := nxt_cut (chainSum s (l.take k)) l[k] (hl _ (List.getElem_mem hlt)) (c - pos s l k) (by omega)
      rw [scan_err he]
    · have : k = l.length := by omega
      subst this
      simp only [List.drop_length, chain, List.take_nil]
      rw [scan_err (nxt_nil _)]
  simp only [hrest, List.append_nil, List.length_zip, starts_length, List.length_take]
  omega
/-- A byte turned, but where the length stands: the chain ends where that frame begins. -/
theorem scan_turn (s : BitVec 32) (l : List Rec) (hl : ∀ r ∈ l, r.d.length ≤ 1024) (t i : Nat) (hi : i < l.length) (h1 : pos s l i ≤ t) (h2 : t < pos s l (i + 1))
    (hn : ¬ (pos s l i + 2 ≤ t ∧ t < pos s l i + 2 + (num l[i].d.length).length)) (y : UInt8) (ht : t < (chain s l).length) (hy : y ≠ (chain s l)[t]) :
    (scan s 0 ((chain s l).set t y)).2.1 = pos s l i := by
  have hc := chain_at s l i hi
  have hp : (chain s (l.take i)).length = pos s l i := rfl
  have hf := pos_succ s l i hi
  obtain ⟨F, hF⟩ : ∃ F, F = frameb (chainSum s (l.take i)) l[i] := ⟨_, rfl⟩
  have hy' : y ≠ (frameb (chainSum s (l.take i)) l[i])[t - pos s l i]'(by omega) := by
    intro e
    apply hy
    rw [e]
    have : (chain s l)[t]? = (frameb (chainSum s (l.take i)) l[i])[t - pos s l i]? := by
      rw [hc, List.getElem?_append_right (by omega), List.getElem?_append_left (by rw [hp]; omega), hp]
    rw [List.getElem?_eq_getElem ht, List.getElem?_eq_getElem (by omega)] at this
    exact (Option.some.inj this).symm
  obtain ⟨e, he⟩ := nxt_turn (chainSum s (l.take i)) l[i] (chain (frameSum (chainSum s (l.take i)) l[i]) (l.drop (i + 1))) (hl _ (List.getElem_mem hi)) (t - pos s l i) (by omega) (by omega) y hy'
  have hset : (chain s l).set t y = chain s (l.take i) ++ ((frameb (chainSum s (l.take i)) l[i]).set (t - pos s l i) y ++ chain (frameSum (chainSum s (l.take i)) l[i]) (l.drop (i + 1))) := by
    rw [hc, List.set_append_right _ _ (by omega), List.set_append_left _ _ (by rw [hp]; omega), hp]
  rw [hset, scan_chain s 0 (l.take i) _ (fun r hr => hl r (List.mem_of_mem_take hr)), scan_err he]
  simp [hp]
/-- Each place lies in some frame. -/
theorem frame_of (s : BitVec 32) (l : List Rec) (t : Nat) (ht : t < (chain s l).length) : ∃ i, i < l.length ∧ pos s l i ≤ t ∧ t < pos s l (i + 1) := by
  have : ∀ k, k ≤ l.length → t < pos s l k → ∃ i, i < k ∧ pos s l i ≤ t ∧ t < pos s l (i + 1) := by
    intro k
    induction k with
    | zero => intro _ h; simp [pos, chain] at h
    | succ k ih =>
      intro hk h
      by_cases h' : t < pos s l k
      · obtain ⟨i, h1, h2⟩ := ih (by omega) h'
        exact ⟨i, by omega, h2⟩
      · exact ⟨k, by omega, by omega, h⟩
  exact this l.length (Nat.le_refl _) (by rw [pos_all]; exact ht)
theorem pos_mono (s : BitVec 32) (l : List Rec) {i j : Nat} (h : i ≤ j) : pos s l i ≤ pos s l j := by
  unfold pos
  have : l.take j = l.take i ++ (l.take j).drop i := by
    have h' := List.take_append_drop i (l.take j)
    rw [List.take_take, Nat.min_eq_left h] at h'
    exact h'.symm
  rw [this, chain_append, List.length_append]
  omega
theorem frameb_length (s : BitVec 32) (r : Rec) : (frameb s r).length = 2 + (num r.d.length).length + r.d.length + 4 := by
  simp [frameb, headb, four_length]; omega
theorem chain_length_le (s : BitVec 32) (l : List Rec) (m : Nat) (hm : m < 18446744073709551616) (hl : ∀ r ∈ l, r.d.length ≤ m) : (chain s l).length ≤ l.length * (m + 16) := by
  induction l generalizing s with
  | nil => simp [chain]
  | cons r l ih =>
    have h1 := ih (frameSum s r) (fun x hx => hl x (by simp [hx]))
    have h2 := hl r (by simp)
    have h3 := num_length10 (x := r.d.length) (by omega)
    simp only [chain, List.length_append, frameb_length, List.length_cons, Nat.add_mul]
    omega
end Go.Proofs.Ytchmcjimnliodaa
