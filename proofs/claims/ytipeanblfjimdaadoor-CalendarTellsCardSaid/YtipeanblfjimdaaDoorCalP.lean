/- The calendar of chapter 6 in plain Lean. No program in sight. -/
namespace Go.Proofs.YtipeanblfjimdaaDoor

/-- Has a year 366 days? -/
def leapY (y : Nat) : Bool := y % 400 == 0 || (y % 4 == 0 && y % 100 != 0)
def monthL (y m : Nat) : Nat :=
  if m = 2 then (if leapY y then 29 else 28) else if m = 4 ∨ m = 6 ∨ m = 9 ∨ m = 11 then 30 else 31
/-- Days ahead of a month. -/
def cum (y m : Nat) : Nat :=
  match m with
  | 1 => 0 | 2 => 31 | m => (153 * (m - 3) + 2) / 5 + 59 + (if leapY y then 1 else 0)
/-- Days from the 1st of January 2000 to that of the year 2000 + k. -/
def yearS (k : Nat) : Nat := 365 * k + (k + 3) / 4 - (k + 99) / 100 + (k + 399) / 400
theorem yearS_succ (k : Nat) : yearS (k + 1) = yearS k + (if leapY (2000 + k) then 366 else 365) := by
  unfold yearS leapY
  by_cases h4 : k % 4 = 0
  · by_cases h1 : k % 100 = 0
    · by_cases h40 : k % 400 = 0
      · rw [if_pos (by simp; omega)]; omega
      · rw [if_neg (by simp; omega)]; omega
    · rw [if_pos (by simp; omega)]; omega
  · rw [if_neg (by simp; omega)]; omega
theorem yearS_400 (k : Nat) : yearS (k + 400) = yearS k + 146097 := by unfold yearS; omega
theorem yearS_mono {j k : Nat} (h : j ≤ k) : yearS j + 365 * (k - j) ≤ yearS k := by
  induction k with
  | zero => have : j = 0 := by omega
            subst this; simp
  | succ k ih =>
    rcases Nat.lt_or_ge k j with h1 | h1
    · have : j = k + 1 := by omega
      subst this; simp
    · have := ih h1
      rw [yearS_succ]
      split <;> omega
theorem leapY_400 (y e : Nat) : leapY (y + 400 * e) = leapY y := by
  unfold leapY
  have h1 : (y + 400 * e) % 400 = y % 400 := by omega
  have h2 : (y + 400 * e) % 4 = y % 4 := by omega
  have h3 : (y + 400 * e) % 100 = y % 100 := by omega
  rw [h1, h2, h3]
theorem cum_succ {y m : Nat} (h1 : 1 ≤ m) (h2 : m ≤ 11) : cum y (m + 1) = cum y m + monthL y m := by
  rcases (by omega : m = 1 ∨ m = 2 ∨ m = 3 ∨ m = 4 ∨ m = 5 ∨ m = 6 ∨ m = 7 ∨ m = 8 ∨ m = 9 ∨ m = 10 ∨ m = 11) with h | h | h | h | h | h | h | h | h | h | h <;> subst h <;>
    simp only [cum, monthL] <;> cases leapY y <;> simp
theorem cum_12 (y : Nat) : cum y 12 + monthL y 12 = if leapY y then 366 else 365 := by
  simp only [cum, monthL]
  cases leapY y <;> simp
/-- A day of the calendar: it is the n-th from the 1st of January 2000. -/
structure IsDay (n y m d : Nat) : Prop where
  m1 : 1 ≤ m
  m2 : m ≤ 12
  d1 : 1 ≤ d
  d2 : d ≤ monthL y m
  y1 : 2000 ≤ y
  at_ : n = yearS (y - 2000) + cum y m + (d - 1)
/-! ### Days since the 1st of March of the year 0 -/
def gOf (day : Nat) : Nat := day - day / 1460 + day / 36524 - day / 146096
def yoe (day : Nat) : Nat := gOf day / 365
def yearM (k : Nat) : Nat := 365 * k + k / 4 - k / 100
theorem gOf_step (day : Nat) : gOf day ≤ gOf (day + 1) := by unfold gOf; omega
theorem gOf_mono {a b : Nat} (h : a ≤ b) : gOf a ≤ gOf b := by
  induction b with
  | zero => have : a = 0 := by omega
            subst this; exact Nat.le_refl _
  | succ b ih =>
    rcases Nat.lt_or_ge b a with h1 | h1
    · have : a = b + 1 := by omega
      subst this; exact Nat.le_refl _
    · exact Nat.le_trans (ih h1) (gOf_step b)
theorem yearM_fin : ∀ k : Fin 400, gOf (yearM k.val) / 365 = k.val ∧ (k.val < 399 → gOf (yearM (k.val + 1) - 1) / 365 = k.val) := by decide +kernel
theorem yoe_last : gOf 146096 / 365 = 399 := by decide +kernel
theorem yoe_at {day : Nat} (h : day ≤ 146096) : yoe day ≤ 399 ∧ yearM (yoe day) ≤ day ∧ (yoe day < 399 → day < yearM (yoe day + 1)) := by
  have h0 : yoe day ≤ 399 := by
    have := Nat.div_le_div_right (c := 365) (gOf_mono h)
    rw [yoe_last] at this
    exact this
  refine ⟨h0, ?_, fun hk => ?_⟩
  · rcases Nat.lt_or_ge day (yearM (yoe day)) with h1 | h1
    · exfalso
      rcases Nat.eq_zero_or_pos (yoe day) with h2 | h2
      · rw [h2] at h1
        unfold yearM at h1
        omega
      · have h3 := (yearM_fin ⟨yoe day - 1, by omega⟩).2 (by simp only; omega)
        simp only at h3
        rw [show yoe day - 1 + 1 = yoe day by omega] at h3
        have h4 := Nat.div_le_div_right (c := 365) (gOf_mono (show day ≤ yearM (yoe day) - 1 by omega))
        rw [h3] at h4
        have : gOf day / 365 = yoe day := rfl
        omega
    · exact h1
  · rcases Nat.lt_or_ge day (yearM (yoe day + 1)) with h1 | h1
    · exact h1
    · exfalso
      have h3 := (yearM_fin ⟨yoe day + 1, by omega⟩).1
      simp only at h3
      have h4 := Nat.div_le_div_right (c := 365) (gOf_mono h1)
      rw [h3] at h4
      have : gOf day / 365 = yoe day := rfl
      omega
/-- A day's year, month and day, by days since the 1st of March of the year 0. -/
def civil (n : Nat) : Nat × Nat × Nat :=
  let era := n / 146097
  let day := n % 146097
  let y := yoe day
  let doy := day - yearM y
  let mp := (5 * doy + 2) / 153
  let d := doy - (153 * mp + 2) / 5 + 1
  if mp < 10 then (era * 400 + y, mp + 3, d) else (era * 400 + y + 1, mp - 9, d)
def daysOf (y m d : Nat) : Nat :=
  let y' := if m ≤ 2 then y - 1 else y
  let m' := if m ≤ 2 then m + 9 else m - 3
  y' / 400 * 146097 + 365 * (y' % 400) + y' % 400 / 4 - y' % 400 / 100 + (153 * m' + 2) / 5 + d - 1
theorem leapY_k {k : Nat} : leapY (2000 + k) = leapY k := by
  have := leapY_400 k 5
  rw [show 2000 + k = k + 400 * 5 by omega]
  exact this
theorem civil_day {t : Nat} : IsDay t (civil (t + 730425)).1 (civil (t + 730425)).2.1 (civil (t + 730425)).2.2 ∧ daysOf (civil (t + 730425)).1 (civil (t + 730425)).2.1 (civil (t + 730425)).2.2 = t + 730425 := by
  obtain ⟨n, hn⟩ : ∃ n, n = t + 730425 := ⟨_, rfl⟩
  obtain ⟨E, hE⟩ : ∃ E, E = n / 146097 := ⟨_, rfl⟩
  obtain ⟨D, hD⟩ : ∃ D, D = n % 146097 := ⟨_, rfl⟩
  have hDl : D ≤ 146096 := by omega
  obtain ⟨h1, h2, h3⟩ := yoe_at hDl
  obtain ⟨Y, hY⟩ : ∃ Y, Y = yoe D := ⟨_, rfl⟩
  rw [← hY] at h1 h2 h3
  obtain ⟨q, hq⟩ : ∃ q, q = D - yearM Y := ⟨_, rfl⟩
  have hqD : D = yearM Y + q := by omega
  obtain ⟨mp, hmp⟩ : ∃ mp, mp = (5 * q + 2) / 153 := ⟨_, rfl⟩
  have hnE : n = 146097 * E + D := by omega
  have hE4 : 4 ≤ E := by omega
  have hq365 : q ≤ 365 := by
    rcases Nat.lt_or_ge Y 399 with h | h
    · have := h3 h
      unfold yearM at this hqD
      omega
    · have : Y = 399 := by omega
      subst this
      unfold yearM at hqD
      omega
  have hleap : q = 365 → leapY (E * 400 + Y + 1) = true := by
    intro hq5
    rw [show E * 400 + Y + 1 = Y + 1 + 400 * E by omega, leapY_400]
    unfold leapY
    rcases Nat.lt_or_ge Y 399 with h | h
    · have := h3 h
      unfold yearM at this hqD
      clear h3 h2 hE hE4 hnE hD hq
      have hd : Y / 100 ≤ (Y + 1) / 100 := Nat.div_le_div_right (by omega)
      have he : (Y + 1) / 4 ≤ Y / 4 + 1 := by omega
      have hc : (Y + 1) / 4 = Y / 4 + 1 := by omega
      have hf : (Y + 1) / 100 = Y / 100 := by omega
      have g4 : (Y + 1) % 4 = 0 := by omega
      have g1 : (Y + 1) % 100 ≠ 0 := by omega
      simp
      omega
    · have : Y = 399 := by omega
      subst this
      rfl
  have hc : civil n = if mp < 10 then (E * 400 + Y, mp + 3, q - (153 * mp + 2) / 5 + 1) else (E * 400 + Y + 1, mp - 9, q - (153 * mp + 2) / 5 + 1) := by
    unfold civil
    simp only [← hE, ← hD, ← hY, ← hq, ← hmp]
  rw [← hn, hc]
  have hm12 : mp ≤ 11 := by omega
  by_cases hm : mp < 10
  · rw [if_pos hm]
    simp only
    have hE5 : 5 ≤ E := by
      rcases (by omega : E = 4 ∨ 5 ≤ E) with h | h
      · exfalso
        subst h
        have : 146037 ≤ D := by omega
        have hY399 : Y = 399 := by
          rcases Nat.lt_or_ge Y 399 with h | h
          · have := h3 h
            unfold yearM at this
            omega
          · omega
        subst hY399
        unfold yearM at hqD
        omega
      · exact h
    have hlY : leapY (E * 400 + Y) = leapY Y := by
      rw [show E * 400 + Y = Y + 400 * E by omega]; exact leapY_400 Y E
    have hyS : yearS (E * 400 + Y - 2000) = (E - 5) * 146097 + yearS Y := by
      unfold yearS
      omega
    have hS : yearS Y + (if leapY Y then 1 else 0) = yearM Y + 1 := by
      unfold yearS yearM leapY
      by_cases g4 : Y % 4 = 0
      · by_cases g1 : Y % 100 = 0
        · by_cases g40 : Y % 400 = 0
          · rw [if_pos (by simp; omega)]; omega
          · rw [if_neg (by simp; omega)]; omega
        · rw [if_pos (by simp; omega)]; omega
      · rw [if_neg (by simp; omega)]; omega
    refine ⟨⟨by omega, by omega, by omega, ?_, by omega, ?_⟩, ?_⟩
    · rcases (by omega : mp = 0 ∨ mp = 1 ∨ mp = 2 ∨ mp = 3 ∨ mp = 4 ∨ mp = 5 ∨ mp = 6 ∨ mp = 7 ∨ mp = 8 ∨ mp = 9) with h | h | h | h | h | h | h | h | h | h <;> rw [h] <;> simp [monthL] <;> omega
    · have hcum : cum (E * 400 + Y) (mp + 3) = (153 * mp + 2) / 5 + 59 + (if leapY Y then 1 else 0) := by
        rw [← hlY]
        rcases (by omega : mp = 0 ∨ mp = 1 ∨ mp = 2 ∨ mp = 3 ∨ mp = 4 ∨ mp = 5 ∨ mp = 6 ∨ mp = 7 ∨ mp = 8 ∨ mp = 9) with h | h | h | h | h | h | h | h | h | h <;> subst h <;> simp [cum]
      rw [hyS, hcum]
      omega
    · unfold daysOf
      rw [if_neg (by omega), if_neg (by omega)]
      have e1 : (E * 400 + Y) / 400 = E := by omega
      have e2 : (E * 400 + Y) % 400 = Y := by omega
      simp only [e1, e2]
      unfold yearM at hqD
      omega
  · rw [if_neg hm]
    simp only
    have hyS : yearS (E * 400 + Y + 1 - 2000) + 146097 = (E - 4) * 146097 + yearS (Y + 1) := by
      rcases (by omega : E = 4 ∨ 5 ≤ E) with h | h
      · subst h
        have hY399 : Y = 399 := by
          have : 146037 ≤ D := by omega
          rcases Nat.lt_or_ge Y 399 with h | h
          · have := h3 h
            unfold yearM at this
            omega
          · omega
        subst hY399
        rfl
      · unfold yearS
        omega
    have hS : yearS (Y + 1) = yearM Y + 366 := by
      unfold yearS yearM
      omega
    have hdl : mp = 11 → q - (153 * 11 + 2) / 5 + 1 ≤ monthL (E * 400 + Y + 1) 2 := by
      intro h
      unfold monthL
      rw [if_pos rfl]
      by_cases h5 : q = 365
      · rw [if_pos (hleap h5)]; omega
      · split <;> omega
    have hy0 : 2000 ≤ E * 400 + Y + 1 := by
      rcases (by omega : E = 4 ∨ 5 ≤ E) with h | h
      · subst h
        have : 146037 ≤ D := by omega
        rcases Nat.lt_or_ge Y 399 with h | h
        · have := h3 h
          unfold yearM at this
          omega
        · omega
      · omega
    have hdays : daysOf (E * 400 + Y + 1) (mp - 9) (q - (153 * mp + 2) / 5 + 1) = n := by
      unfold daysOf
      rw [if_pos (by omega), if_pos (by omega)]
      have e1 : (E * 400 + Y + 1 - 1) / 400 = E := by omega
      have e2 : (E * 400 + Y + 1 - 1) % 400 = Y := by omega
      have e3 : mp - 9 + 9 = mp := by omega
      simp only [e1, e2, e3]
      unfold yearM at hqD
      omega
    rcases (by omega : mp = 10 ∨ mp = 11) with h | h
    · rw [h] at hdays ⊢
      refine ⟨⟨by omega, by omega, by omega, ?_, hy0, ?_⟩, hdays⟩
      · simp [monthL]; omega
      · simp only [cum]; omega
    · have := hdl h
      rw [h] at hdays ⊢
      refine ⟨⟨by omega, by omega, by omega, this, hy0, ?_⟩, hdays⟩
      simp only [cum]; omega
/-- There is one such day alone. -/
theorem isDay_lt {n y m d : Nat} (h : IsDay n y m d) : yearS (y - 2000) ≤ n ∧ n < yearS (y - 2000 + 1) := by
  have h1 := h.at_
  have h2 := h.m1
  have h3 := h.m2
  have h4 := h.d1
  have h5 := h.d2
  have h6 : cum y m + monthL y m ≤ (if leapY y then 366 else 365) := by
    rcases (by omega : m = 1 ∨ m = 2 ∨ m = 3 ∨ m = 4 ∨ m = 5 ∨ m = 6 ∨ m = 7 ∨ m = 8 ∨ m = 9 ∨ m = 10 ∨ m = 11 ∨ m = 12) with h | h | h | h | h | h | h | h | h | h | h | h <;> subst h <;>
      simp only [cum, monthL] <;> cases leapY y <;> simp
  have h7 := yearS_succ (y - 2000)
  have hy := h.y1
  rw [show 2000 + (y - 2000) = y by omega] at h7
  omega
theorem isDay_year {n y m d y' : Nat} (h : IsDay n y m d) (h1 : 2000 ≤ y') (h2 : yearS (y' - 2000) ≤ n) (h3 : n < yearS (y' - 2000 + 1)) : y = y' := by
  obtain ⟨g1, g2⟩ := isDay_lt h
  have hy := h.y1
  rcases Nat.lt_trichotomy y y' with c | c | c
  · have := yearS_mono (show y - 2000 + 1 ≤ y' - 2000 by omega)
    omega
  · exact c
  · have := yearS_mono (show y' - 2000 + 1 ≤ y - 2000 by omega)
    omega
theorem cum_mono {y a b : Nat} (h1 : 1 ≤ a) (h : a < b) (h2 : b ≤ 12) : cum y a + monthL y a ≤ cum y b := by
  induction b with
  | zero => omega
  | succ b ih =>
    rcases (by omega : a < b ∨ a = b) with c | c
    · have := ih c (by omega)
      rw [cum_succ (by omega) (by omega)]
      omega
    · subst c
      rw [cum_succ h1 (by omega)]
      exact Nat.le_refl _
theorem isDay_month {n y m d m' : Nat} (h : IsDay n y m d) (h1 : 1 ≤ m') (h2 : m' ≤ 12) (h3 : yearS (y - 2000) + cum y m' ≤ n) (h4 : n < yearS (y - 2000) + cum y m' + monthL y m') : m = m' ∧ d = n - (yearS (y - 2000) + cum y m') + 1 := by
  have g1 := h.at_
  have g2 := h.d1
  have g3 := h.d2
  rcases Nat.lt_trichotomy m m' with c | c | c
  · have := cum_mono (y := y) h.m1 c h2
    omega
  · subst c
    exact ⟨rfl, by omega⟩
  · have := cum_mono (y := y) h1 c h.m2
    omega
end Go.Proofs.YtipeanblfjimdaaDoor
