/- What the functions of calendar give: Text. -/
import Derived.Test.YtipeanblfjimdaaDoorCW4
namespace Go.Proofs.YtipeanblfjimdaaDoor
open Go Go.RowKit
set_option maxRecDepth 10000
set_option linter.unusedSimpArgs false
set_option linter.unusedVariables false

section
variable {w : World} {K : Value → World → Prop}
theorem civil_small {N : Nat} (hN : N ≤ 763549742) : (civil (N + 730425)).1 ≤ 2999999 ∧ (civil (N + 730425)).2.1 ≤ 12 ∧ (civil (N + 730425)).2.2 ≤ 31 := by
  obtain ⟨hd, _⟩ := civil_day (t := N)
  have h1 := isDay_bound hd hN
  have h2 := hd.m2
  have h3 := hd.d2
  refine ⟨h1, h2, Nat.le_trans h3 ?_⟩
  unfold monthL
  split
  · split <;> omega
  · split <;> omega
def textD (y m d h mi : Nat) : List UInt8 := padD y 4 ++ [45] ++ padD m 2 ++ [45] ++ padD d 2 ++ [32] ++ padD h 2 ++ [58] ++ padD mi 2
theorem padD_length {n least : Nat} (hn : n ≤ 9000000) (hl : least ≤ 4) : (padD n least).length ≤ 7 := by
  unfold padD
  rw [lowD_length]
  have := nDigits_le 6 n (Nat.lt_of_le_of_lt hn (by decide))
  omega
theorem text_bad {wb : World} {t : Int} (ht : t < 0 ∨ 1099511627776 < t) (k : ∀ w', Pure wb w' → K (.string ⟨⟨[63]⟩⟩) w') : Ret Tryd.prog 6 #[.int .i64 t] wb K := by
  have H := Hp.start (fun _ => False) wb
  apply e6
  unfold c6
  refine of_bad ht fun w1 hp => ?_
  replace H := H.pure hp
  clear hp
  unfold noneC
  repeat (first | ((first | refine val_box H ?_ | refine val_alloc H (fun w => by simp [go_sem]; rfl) ?_); clear H; intro B w hB hp H; clear hB hp; try simp only [List.set_cons_zero, List.set_cons_succ, List.setIfInBounds_toArray, List.set_set, Value.cells] at H) | (first | refine val_ld H (fun w => by simp [go_sem]) (by with_reducible repeat (first | exact At.zero | apply At.succ)) (by rfl) ?_ | refine rd_ld H (fun w => by simp [go_sem]) (by with_reducible repeat (first | exact At.zero | apply At.succ)) (by rfl) ?_ | refine val_ldB H (by with_reducible repeat (first | exact At.zero | apply At.succ)) (aggT (by kernel_rfl)) ?_ | refine rd_ldB H (by with_reducible repeat (first | exact At.zero | apply At.succ)) (aggT (by kernel_rfl)) ?_) | ((first | refine unt_st H (by with_reducible repeat (first | exact At.zero | apply At.succ)) (fun w => by simp [go_sem]) (by rfl) (by rfl) ?_ | refine unt_stB H (by with_reducible repeat (first | exact At.zero | apply At.succ)) (aggT (by kernel_rfl)) (by rfl) (by rfl) ?_); clear H; intro w ho H; clear ho; try simp only [List.set_cons_zero, List.set_cons_succ, List.setIfInBounds_toArray, List.set_set, Value.cells] at H) | (refine val_at_bs ?_; ((refine val_run (by simp [go_sem]; (try simp (disch := omega) only [w_i64, w_u64, w_u32, w_u16, w_u8, w_i32, Int.tdiv_eq_ediv_of_nonneg, Int.tmod_eq_emod_of_nonneg]); rfl) ?_); refine onOk_bs H ?_; clear H; intro B w hB hp H; clear hB hp; try simp only [List.set_cons_zero, List.set_cons_succ, List.setIfInBounds_toArray, List.set_set, Value.cells] at H)) | (first | (refine val_run (by simp [bin, nilc, go_sem]; (try simp (disch := omega) only [w_i64, w_u64, w_u32, w_u16, w_u8, w_i32, Int.tdiv_eq_ediv_of_nonneg, Int.tmod_eq_emod_of_nonneg]); rfl) ?_; refine onOk_in ?_) | (refine pu_run (fun w => by simp [bin, nilc, go_sem]; (try simp (disch := omega) only [w_i64, w_u64, w_u32, w_u16, w_u8, w_i32, Int.tdiv_eq_ediv_of_nonneg, Int.tmod_eq_emod_of_nonneg]); rfl) ?_; refine puR_in ?_) | (refine tk_run (fun w => by simp [bin, nilc, go_sem]; (try simp (disch := omega) only [w_i64, w_u64, w_u32, w_u16, w_u8, w_i32, Int.tdiv_eq_ediv_of_nonneg, Int.tmod_eq_emod_of_nonneg]); rfl) ?_; refine puR_in ?_)) | (refine tk_at_in ?_) | (refine ph_at ?_) | (refine ph_pure (Only.refl _ _) ?_) | (refine ph_k H (by with_reducible repeat (first | exact At.zero | apply At.succ)) ?_) | (refine tk_k (fun w => by simp [go_sem]) (by rfl) ?_) | (refine ph_pure H.only ?_) | (refine ph_pure (hpT.trans H.only (fun _ _ k => k)) ?_) | (refine tk_pld H (fun w => by simp [go_sem]) (by with_reducible repeat (first | exact At.zero | apply At.succ)) (by rfl) ?_) | (refine tk_pldB H (by with_reducible repeat (first | exact At.zero | apply At.succ)) (aggT (by kernel_rfl)) ?_) | (refine gd_true_in ?_) | (refine gd_false_in ?_) | (refine gd_true_in' ?_) | (refine gd_false_in' ?_))
  exact k _ H.only
set_option maxHeartbeats 2000000 in
theorem text_of {wb : World} {t : Int} {cy cm cd cw ch ci : Nat} (b1 : cy ≤ 2999999) (b2 : cm ≤ 12) (b3 : cd ≤ 31) (b4 : ch ≤ 60) (b5 : ci ≤ 60) (htab : Tab wb)
    (hof : ∀ K' : Value → World → Prop, (∀ w', Pure wb w' → K' (.tuple #[.agg #[.int .i64 cy, .int .i64 cm, .int .i64 cd, .int .i64 cw, .int .i64 ch, .int .i64 ci], .int .i64 0]) w') → Ret Tryd.prog 5 #[.int .i64 t] wb K')
    (k : ∀ w', Pure wb w' → K (.string ⟨⟨textD cy cm cd ch ci⟩⟩) w') : Ret Tryd.prog 6 #[.int .i64 t] wb K := by
  have H := Hp.start (fun _ => False) wb
  apply e6
  unfold c6
  refine hof _ fun w1 hp => ?_
  replace H := H.pure hp
  clear hp hof
  repeat (first | ((first | refine val_box H ?_ | refine val_alloc H (fun w => by simp [go_sem]; rfl) ?_); clear H; intro B w hB hp H; clear hB hp; try simp only [List.set_cons_zero, List.set_cons_succ, List.setIfInBounds_toArray, List.set_set, Value.cells] at H) | (first | refine val_ld H (fun w => by simp [go_sem]) (by with_reducible repeat (first | exact At.zero | apply At.succ)) (by rfl) ?_ | refine rd_ld H (fun w => by simp [go_sem]) (by with_reducible repeat (first | exact At.zero | apply At.succ)) (by rfl) ?_ | refine val_ldB H (by with_reducible repeat (first | exact At.zero | apply At.succ)) (aggT (by kernel_rfl)) ?_ | refine rd_ldB H (by with_reducible repeat (first | exact At.zero | apply At.succ)) (aggT (by kernel_rfl)) ?_) | ((first | refine unt_st H (by with_reducible repeat (first | exact At.zero | apply At.succ)) (fun w => by simp [go_sem]) (by rfl) (by rfl) ?_ | refine unt_stB H (by with_reducible repeat (first | exact At.zero | apply At.succ)) (aggT (by kernel_rfl)) (by rfl) (by rfl) ?_); clear H; intro w ho H; clear ho; try simp only [List.set_cons_zero, List.set_cons_succ, List.setIfInBounds_toArray, List.set_set, Value.cells] at H) | (refine val_at_bs ?_; ((refine val_run (by simp [go_sem]; (try simp (disch := omega) only [w_i64, w_u64, w_u32, w_u16, w_u8, w_i32, Int.tdiv_eq_ediv_of_nonneg, Int.tmod_eq_emod_of_nonneg]); rfl) ?_); refine onOk_bs H ?_; clear H; intro B w hB hp H; clear hB hp; try simp only [List.set_cons_zero, List.set_cons_succ, List.setIfInBounds_toArray, List.set_set, Value.cells] at H)) | (first | (refine val_run (by simp [bin, nilc, go_sem]; (try simp (disch := omega) only [w_i64, w_u64, w_u32, w_u16, w_u8, w_i32, Int.tdiv_eq_ediv_of_nonneg, Int.tmod_eq_emod_of_nonneg]); rfl) ?_; refine onOk_in ?_) | (refine pu_run (fun w => by simp [bin, nilc, go_sem]; (try simp (disch := omega) only [w_i64, w_u64, w_u32, w_u16, w_u8, w_i32, Int.tdiv_eq_ediv_of_nonneg, Int.tmod_eq_emod_of_nonneg]); rfl) ?_; refine puR_in ?_) | (refine tk_run (fun w => by simp [bin, nilc, go_sem]; (try simp (disch := omega) only [w_i64, w_u64, w_u32, w_u16, w_u8, w_i32, Int.tdiv_eq_ediv_of_nonneg, Int.tmod_eq_emod_of_nonneg]); rfl) ?_; refine puR_in ?_)) | (refine tk_at_in ?_) | (refine ph_at ?_) | (refine ph_pure (Only.refl _ _) ?_) | (refine ph_k H (by with_reducible repeat (first | exact At.zero | apply At.succ)) ?_) | (refine tk_k (fun w => by simp [go_sem]) (by rfl) ?_) | (refine ph_pure H.only ?_) | (refine ph_pure (hpT.trans H.only (fun _ _ k => k)) ?_) | (refine tk_pld H (fun w => by simp [go_sem]) (by with_reducible repeat (first | exact At.zero | apply At.succ)) (by rfl) ?_) | (refine tk_pldB H (by with_reducible repeat (first | exact At.zero | apply At.succ)) (aggT (by kernel_rfl)) ?_) | (refine gd_true_in ?_) | (refine gd_false_in ?_) | (refine gd_true_in' ?_) | (refine gd_false_in' ?_))
  refine drw_u H 5 fun w2 hp H => ?_
  clear hp
  have HR := Hp.start (fun _ => False) w2
  repeat (first | ((first | refine val_box H ?_ | refine val_alloc H (fun w => by simp [go_sem]; rfl) ?_); clear H; intro B w hB hp H; clear hB hp; try simp only [List.set_cons_zero, List.set_cons_succ, List.setIfInBounds_toArray, List.set_set, Value.cells] at H) | (first | refine val_ld H (fun w => by simp [go_sem]) (by with_reducible repeat (first | exact At.zero | apply At.succ)) (by rfl) ?_ | refine rd_ld H (fun w => by simp [go_sem]) (by with_reducible repeat (first | exact At.zero | apply At.succ)) (by rfl) ?_ | refine val_ldB H (by with_reducible repeat (first | exact At.zero | apply At.succ)) (aggT (by kernel_rfl)) ?_ | refine rd_ldB H (by with_reducible repeat (first | exact At.zero | apply At.succ)) (aggT (by kernel_rfl)) ?_) | ((first | refine unt_st H (by with_reducible repeat (first | exact At.zero | apply At.succ)) (fun w => by simp [go_sem]) (by rfl) (by rfl) ?_ | refine unt_stB H (by with_reducible repeat (first | exact At.zero | apply At.succ)) (aggT (by kernel_rfl)) (by rfl) (by rfl) ?_); clear H; intro w ho H; clear ho; try simp only [List.set_cons_zero, List.set_cons_succ, List.setIfInBounds_toArray, List.set_set, Value.cells] at H) | (refine val_at_bs ?_; ((refine val_run (by simp [go_sem]; (try simp (disch := omega) only [w_i64, w_u64, w_u32, w_u16, w_u8, w_i32, Int.tdiv_eq_ediv_of_nonneg, Int.tmod_eq_emod_of_nonneg]); rfl) ?_); refine onOk_bs H ?_; clear H; intro B w hB hp H; clear hB hp; try simp only [List.set_cons_zero, List.set_cons_succ, List.setIfInBounds_toArray, List.set_set, Value.cells] at H)) | (first | (refine val_run (by simp [bin, nilc, go_sem]; (try simp (disch := omega) only [w_i64, w_u64, w_u32, w_u16, w_u8, w_i32, Int.tdiv_eq_ediv_of_nonneg, Int.tmod_eq_emod_of_nonneg]); rfl) ?_; refine onOk_in ?_) | (refine pu_run (fun w => by simp [bin, nilc, go_sem]; (try simp (disch := omega) only [w_i64, w_u64, w_u32, w_u16, w_u8, w_i32, Int.tdiv_eq_ediv_of_nonneg, Int.tmod_eq_emod_of_nonneg]); rfl) ?_; refine puR_in ?_) | (refine tk_run (fun w => by simp [bin, nilc, go_sem]; (try simp (disch := omega) only [w_i64, w_u64, w_u32, w_u16, w_u8, w_i32, Int.tdiv_eq_ediv_of_nonneg, Int.tmod_eq_emod_of_nonneg]); rfl) ?_; refine puR_in ?_)) | (refine tk_at_in ?_) | (refine ph_at ?_) | (refine ph_pure (Only.refl _ _) ?_) | (refine ph_k H (by with_reducible repeat (first | exact At.zero | apply At.succ)) ?_) | (refine tk_k (fun w => by simp [go_sem]) (by rfl) ?_) | (refine ph_pure H.only ?_) | (refine ph_pure (hpT.trans H.only (fun _ _ k => k)) ?_) | (refine tk_pld H (fun w => by simp [go_sem]) (by with_reducible repeat (first | exact At.zero | apply At.succ)) (by rfl) ?_) | (refine tk_pldB H (by with_reducible repeat (first | exact At.zero | apply At.succ)) (aggT (by kernel_rfl)) ?_) | (refine gd_true_in ?_) | (refine gd_false_in ?_) | (refine gd_true_in' ?_) | (refine gd_false_in' ?_) | (refine tk_uld H (by decide) (fun w => by simp [go_sem]) (by with_reducible repeat (first | exact At.zero | apply At.succ)) (by rfl) ?_) | (refine tk_uldB H (by decide) (by with_reducible repeat (first | exact At.zero | apply At.succ)) (aggT (by kernel_rfl)) ?_) | (refine ph_v (by decide) ?_))
  have l1 := padD_length (n := cy) (least := 4) (by omega) (by omega)
  have l2 := padD_length (n := cm) (least := 2) (by omega) (by omega)
  have l3 := padD_length (n := cd) (least := 2) (by omega) (by omega)
  have l4 := padD_length (n := ch) (least := 2) (by omega) (by omega)
  have l5 := padD_length (n := ci) (least := 2) (by omega) (by omega)
  refine digits_ret (least := 4) (htab.pure H.only) (by omega) (by decide) fun w3 hp => ?_
  replace H := H.pure hp
  replace HR := HR.pure hp
  clear hp
  refine ph_u HR.only ?_
  (first | (refine val_run (run_adds (by simp only [List.length_cons, List.length_nil]; omega) _) ?_; refine onOk_in ?_) | (refine pu_run (fun w => run_adds (by simp only [List.length_cons, List.length_nil]; omega) w) ?_; refine puR_in ?_))
  refine digits_ret (least := 2) (htab.pure H.only) (by omega) (by decide) fun w4 hp => ?_
  replace H := H.pure hp
  replace HR := HR.pure hp
  clear hp
  refine ph_u HR.only ?_
  (first | (refine val_run (run_adds (by simp only [List.length_append, List.length_cons, List.length_nil]; omega) _) ?_; refine onOk_in ?_) | (refine pu_run (fun w => run_adds (by simp only [List.length_append, List.length_cons, List.length_nil]; omega) w) ?_; refine puR_in ?_))
  (first | (refine val_run (run_adds (by simp only [List.length_append, List.length_cons, List.length_nil]; omega) _) ?_; refine onOk_in ?_) | (refine pu_run (fun w => run_adds (by simp only [List.length_append, List.length_cons, List.length_nil]; omega) w) ?_; refine puR_in ?_))
  refine digits_ret (least := 2) (htab.pure H.only) (by omega) (by decide) fun w5 hp => ?_
  replace H := H.pure hp
  replace HR := HR.pure hp
  clear hp
  refine ph_u HR.only ?_
  (first | (refine val_run (run_adds (by simp only [List.length_append, List.length_cons, List.length_nil]; omega) _) ?_; refine onOk_in ?_) | (refine pu_run (fun w => run_adds (by simp only [List.length_append, List.length_cons, List.length_nil]; omega) w) ?_; refine puR_in ?_))
  (first | (refine val_run (run_adds (by simp only [List.length_append, List.length_cons, List.length_nil]; omega) _) ?_; refine onOk_in ?_) | (refine pu_run (fun w => run_adds (by simp only [List.length_append, List.length_cons, List.length_nil]; omega) w) ?_; refine puR_in ?_))
  refine digits_ret (least := 2) (htab.pure H.only) (by omega) (by decide) fun w6 hp => ?_
  replace H := H.pure hp
  replace HR := HR.pure hp
  clear hp
  refine ph_u HR.only ?_
  (first | (refine val_run (run_adds (by simp only [List.length_append, List.length_cons, List.length_nil]; omega) _) ?_; refine onOk_in ?_) | (refine pu_run (fun w => run_adds (by simp only [List.length_append, List.length_cons, List.length_nil]; omega) w) ?_; refine puR_in ?_))
  (first | (refine val_run (run_adds (by simp only [List.length_append, List.length_cons, List.length_nil]; omega) _) ?_; refine onOk_in ?_) | (refine pu_run (fun w => run_adds (by simp only [List.length_append, List.length_cons, List.length_nil]; omega) w) ?_; refine puR_in ?_))
  refine digits_ret (least := 2) (htab.pure H.only) (by omega) (by decide) fun w7 hp => ?_
  replace H := H.pure hp
  replace HR := HR.pure hp
  clear hp
  refine ph_u HR.only ?_
  (first | (refine val_run (run_adds (by simp only [List.length_append, List.length_cons, List.length_nil]; omega) _) ?_; refine onOk_in ?_) | (refine pu_run (fun w => run_adds (by simp only [List.length_append, List.length_cons, List.length_nil]; omega) w) ?_; refine puR_in ?_))
  exact k _ H.only
theorem text_ret {wb : World} {t : Nat} (ht : t ≤ 1099511627776) (htab : Tab wb) (k : ∀ w', Pure wb w' → K (.string ⟨⟨textD (civil (t / 1440 + 730425)).1 (civil (t / 1440 + 730425)).2.1 (civil (t / 1440 + 730425)).2.2 (t % 1440 / 60) (t % 1440 % 60)⟩⟩) w') : Ret Tryd.prog 6 #[.int .i64 t] wb K := by
  obtain ⟨b1, b2, b3⟩ := civil_small (N := t / 1440) (by omega)
  exact text_of b1 b2 b3 (by omega) (by omega) htab (fun K' kk => of_ret ht kk) k
end
end Go.Proofs.YtipeanblfjimdaaDoor
