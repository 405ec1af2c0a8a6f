/- Several texts in one: WX2, WX3, VcV, WX4, WX5, Open, OpenD, Close. No conditions. -/
import Derived.Test.YtchmcjimnliodaaMW5
import Derived.Lib.SlBytesConst
import Derived.WalkKit
import Derived.ProofKit
import Derived.OpenShut
import Derived.ShutString
import Derived.ChangeOld
import Derived.Below
import Derived.Deep.SlicePairs
section
set_option linter.unusedSimpArgs false
set_option linter.unusedVariables false
/- complinelaw05's own functions: same, begins, alike, keeps. -/
namespace Go.Proofs.Ytchmcjimnliodaa
open Go Go.RowKit
set_option maxRecDepth 10000
set_option linter.unusedSimpArgs false
set_option linter.unusedVariables false

section
variable {S : Nat → Prop} {w0 w : World} {L : List It} {K : Value → World → Prop}
theorem same5_ret {r1 r2 : Rec} {a1 a2 : Option Addr} {c1 c2 : Nat} (h1 : Lies w a1 (ub r1.d)) (h2 : Lies w a2 (ub r2.d)) (k : ∀ w' b, Pure w w' → (b = true ↔ r1 = r2) → K (.bool b) w') :
    Ret Try.prog 92 #[.agg #[.int .u8 r1.k.toNat, .slice a1 r1.d.length c1], .agg #[.int .u8 r2.k.toNat, .slice a2 r2.d.length c2]] w K := by
  have H := Hp.start (fun _ => False) w
  obtain ⟨k1, d1⟩ := r1
  obtain ⟨k2, d2⟩ := r2
  apply e92
  unfold c92
  repeat (first | ((first | refine val_box H ?_ | refine val_alloc H (fun w => by simp [go_sem]; rfl) ?_); clear H; intro B w hB hp H; clear hB hp; try simp only [List.set_cons_zero, List.set_cons_succ, List.setIfInBounds_toArray, List.set_set, Value.cells] at H) | (first | refine val_ld H (fun w => by simp [go_sem]) (by with_reducible repeat (first | exact At.zero | apply At.succ)) (by rfl) ?_ | refine rd_ld H (fun w => by simp [go_sem]) (by with_reducible repeat (first | exact At.zero | apply At.succ)) (by rfl) ?_ | refine val_ldB H (by with_reducible repeat (first | exact At.zero | apply At.succ)) (aggT (by kernel_rfl)) ?_ | refine rd_ldB H (by with_reducible repeat (first | exact At.zero | apply At.succ)) (aggT (by kernel_rfl)) ?_) | ((first | refine unt_st H (by with_reducible repeat (first | exact At.zero | apply At.succ)) (fun w => by simp [go_sem]) (by rfl) (by rfl) ?_ | refine unt_stB H (by with_reducible repeat (first | exact At.zero | apply At.succ)) (aggT (by kernel_rfl)) (by rfl) (by rfl) ?_); clear H; intro w ho H; clear ho; try simp only [List.set_cons_zero, List.set_cons_succ, List.setIfInBounds_toArray, List.set_set, Value.cells] at H) | (refine val_at_bs ?_; ((refine val_run (by simp [go_sem]; (try simp (disch := omega) only [w_i64, w_u64, w_u32, w_u16, w_u8, w_i32]); rfl) ?_); refine onOk_bs H ?_; clear H; intro B w hB hp H; clear hB hp; try simp only [List.set_cons_zero, List.set_cons_succ, List.setIfInBounds_toArray, List.set_set, Value.cells] at H)) | (first | (refine val_run (by simp [bin, nilc, go_sem]; (try simp (disch := omega) only [w_i64, w_u64, w_u32, w_u16, w_u8, w_i32]); rfl) ?_; refine onOk_in ?_) | (refine pu_run (fun w => by simp [bin, nilc, go_sem]; (try simp (disch := omega) only [w_i64, w_u64, w_u32, w_u16, w_u8, w_i32]); rfl) ?_; refine puR_in ?_) | (refine tk_run (fun w => by simp [bin, nilc, go_sem]; (try simp (disch := omega) only [w_i64, w_u64, w_u32, w_u16, w_u8, w_i32]); rfl) ?_; refine puR_in ?_)) | (refine tk_at_in ?_) | (refine ph_at ?_) | (refine ph_pure (Only.refl _ _) ?_) | (refine ph_k H (by with_reducible repeat (first | exact At.zero | apply At.succ)) ?_) | (refine tk_k (fun w => by simp [go_sem]) (by rfl) ?_) | (refine ph_pure H.only ?_) | (refine ph_pure (hpT.trans H.only (fun _ _ k => k)) ?_) | (refine tk_pld H (fun w => by simp [go_sem]) (by with_reducible repeat (first | exact At.zero | apply At.succ)) (by rfl) ?_) | (refine tk_pldB H (by with_reducible repeat (first | exact At.zero | apply At.succ)) (aggT (by kernel_rfl)) ?_) | (refine gd_true_in ?_) | (refine gd_false_in ?_) | (refine gd_true_in' ?_) | (refine gd_false_in' ?_))
  have h1' := h1.pure H.only
  have h2' := h2.pure H.only
  refine gd_case (fun hk => ?_) (fun hk => ?_)
  · have hk' : k1 = k2 := by
      apply UInt8.toNat_inj.1
      simp at hk
      omega
    repeat (first | ((first | refine val_box H ?_ | refine val_alloc H (fun w => by simp [go_sem]; rfl) ?_); clear H; intro B w hB hp H; clear hB hp; try simp only [List.set_cons_zero, List.set_cons_succ, List.setIfInBounds_toArray, List.set_set, Value.cells] at H) | (first | refine val_ld H (fun w => by simp [go_sem]) (by with_reducible repeat (first | exact At.zero | apply At.succ)) (by rfl) ?_ | refine rd_ld H (fun w => by simp [go_sem]) (by with_reducible repeat (first | exact At.zero | apply At.succ)) (by rfl) ?_ | refine val_ldB H (by with_reducible repeat (first | exact At.zero | apply At.succ)) (aggT (by kernel_rfl)) ?_ | refine rd_ldB H (by with_reducible repeat (first | exact At.zero | apply At.succ)) (aggT (by kernel_rfl)) ?_) | ((first | refine unt_st H (by with_reducible repeat (first | exact At.zero | apply At.succ)) (fun w => by simp [go_sem]) (by rfl) (by rfl) ?_ | refine unt_stB H (by with_reducible repeat (first | exact At.zero | apply At.succ)) (aggT (by kernel_rfl)) (by rfl) (by rfl) ?_); clear H; intro w ho H; clear ho; try simp only [List.set_cons_zero, List.set_cons_succ, List.setIfInBounds_toArray, List.set_set, Value.cells] at H) | (refine val_at_bs ?_; ((refine val_run (by simp [go_sem]; (try simp (disch := omega) only [w_i64, w_u64, w_u32, w_u16, w_u8, w_i32]); rfl) ?_); refine onOk_bs H ?_; clear H; intro B w hB hp H; clear hB hp; try simp only [List.set_cons_zero, List.set_cons_succ, List.setIfInBounds_toArray, List.set_set, Value.cells] at H)) | (first | (refine val_run (by simp [bin, nilc, go_sem]; (try simp (disch := omega) only [w_i64, w_u64, w_u32, w_u16, w_u8, w_i32]); rfl) ?_; refine onOk_in ?_) | (refine pu_run (fun w => by simp [bin, nilc, go_sem]; (try simp (disch := omega) only [w_i64, w_u64, w_u32, w_u16, w_u8, w_i32]); rfl) ?_; refine puR_in ?_) | (refine tk_run (fun w => by simp [bin, nilc, go_sem]; (try simp (disch := omega) only [w_i64, w_u64, w_u32, w_u16, w_u8, w_i32]); rfl) ?_; refine puR_in ?_)) | (refine tk_at_in ?_) | (refine ph_at ?_) | (refine ph_pure (Only.refl _ _) ?_) | (refine ph_k H (by with_reducible repeat (first | exact At.zero | apply At.succ)) ?_) | (refine tk_k (fun w => by simp [go_sem]) (by rfl) ?_) | (refine ph_pure H.only ?_) | (refine ph_pure (hpT.trans H.only (fun _ _ k => k)) ?_) | (refine tk_pld H (fun w => by simp [go_sem]) (by with_reducible repeat (first | exact At.zero | apply At.succ)) (by rfl) ?_) | (refine tk_pldB H (by with_reducible repeat (first | exact At.zero | apply At.succ)) (aggT (by kernel_rfl)) ?_) | (refine gd_true_in ?_) | (refine gd_false_in ?_) | (refine gd_true_in' ?_) | (refine gd_false_in' ?_))
    refine val_conv Try.underlying24 Try.underlying5 Try.underlying9 rfl h1' ?_
    repeat (first | ((first | refine val_box H ?_ | refine val_alloc H (fun w => by simp [go_sem]; rfl) ?_); clear H; intro B w hB hp H; clear hB hp; try simp only [List.set_cons_zero, List.set_cons_succ, List.setIfInBounds_toArray, List.set_set, Value.cells] at H) | (first | refine val_ld H (fun w => by simp [go_sem]) (by with_reducible repeat (first | exact At.zero | apply At.succ)) (by rfl) ?_ | refine rd_ld H (fun w => by simp [go_sem]) (by with_reducible repeat (first | exact At.zero | apply At.succ)) (by rfl) ?_ | refine val_ldB H (by with_reducible repeat (first | exact At.zero | apply At.succ)) (aggT (by kernel_rfl)) ?_ | refine rd_ldB H (by with_reducible repeat (first | exact At.zero | apply At.succ)) (aggT (by kernel_rfl)) ?_) | ((first | refine unt_st H (by with_reducible repeat (first | exact At.zero | apply At.succ)) (fun w => by simp [go_sem]) (by rfl) (by rfl) ?_ | refine unt_stB H (by with_reducible repeat (first | exact At.zero | apply At.succ)) (aggT (by kernel_rfl)) (by rfl) (by rfl) ?_); clear H; intro w ho H; clear ho; try simp only [List.set_cons_zero, List.set_cons_succ, List.setIfInBounds_toArray, List.set_set, Value.cells] at H) | (refine val_at_bs ?_; ((refine val_run (by simp [go_sem]; (try simp (disch := omega) only [w_i64, w_u64, w_u32, w_u16, w_u8, w_i32]); rfl) ?_); refine onOk_bs H ?_; clear H; intro B w hB hp H; clear hB hp; try simp only [List.set_cons_zero, List.set_cons_succ, List.setIfInBounds_toArray, List.set_set, Value.cells] at H)) | (first | (refine val_run (by simp [bin, nilc, go_sem]; (try simp (disch := omega) only [w_i64, w_u64, w_u32, w_u16, w_u8, w_i32]); rfl) ?_; refine onOk_in ?_) | (refine pu_run (fun w => by simp [bin, nilc, go_sem]; (try simp (disch := omega) only [w_i64, w_u64, w_u32, w_u16, w_u8, w_i32]); rfl) ?_; refine puR_in ?_) | (refine tk_run (fun w => by simp [bin, nilc, go_sem]; (try simp (disch := omega) only [w_i64, w_u64, w_u32, w_u16, w_u8, w_i32]); rfl) ?_; refine puR_in ?_)) | (refine tk_at_in ?_) | (refine ph_at ?_) | (refine ph_pure (Only.refl _ _) ?_) | (refine ph_k H (by with_reducible repeat (first | exact At.zero | apply At.succ)) ?_) | (refine tk_k (fun w => by simp [go_sem]) (by rfl) ?_) | (refine ph_pure H.only ?_) | (refine ph_pure (hpT.trans H.only (fun _ _ k => k)) ?_) | (refine tk_pld H (fun w => by simp [go_sem]) (by with_reducible repeat (first | exact At.zero | apply At.succ)) (by rfl) ?_) | (refine tk_pldB H (by with_reducible repeat (first | exact At.zero | apply At.succ)) (aggT (by kernel_rfl)) ?_) | (refine gd_true_in ?_) | (refine gd_false_in ?_) | (refine gd_true_in' ?_) | (refine gd_false_in' ?_))
    refine val_conv Try.underlying24 Try.underlying5 Try.underlying9 rfl h2' ?_
    refine val_run (run_eqs (P := Try.prog) _ _ _) ?_
    refine onOk_in ?_
    exact k _ _ H.only (by simp [hk'])
  · have hk' : k1 ≠ k2 := by
      intro e
      rw [e] at hk
      simp at hk
    exact k _ false H.only (by simp [hk'])
theorem Recs.part {a : Option Addr} {xs : List RecAt} {b o : Nat} (h : Recs w (some ⟨b, o, none⟩) xs) {i : Nat} (hi : i < xs.length) : Lies w (some ⟨b, o + i * 2, none⟩) xs[i].cells := by
  have := (h.1.dropAt (i * 2)).take 2
  have e : ((xs.flatMap RecAt.cells).drop (i * 2)).take 2 = xs[i].cells := recs_part hi
  rw [e] at this
  exact this
theorem Recs.at_ {a : Option Addr} {xs : List RecAt} (h : Recs w a xs) {i : Nat} (hi : i < xs.length) : ∃ b o, a = some ⟨b, o, none⟩ := by
  obtain ⟨b, o, h, _⟩ := h.1.addr (by
    intro e
    have := recsC_length xs
    rw [recsC, e] at this
    simp at this
    omega)
  exact ⟨b, o, h⟩
theorem pre_step {α : Type} {p q : List α} {i : Nat} {x y : α} (hp : p.take i <+: q) (hi : p[i]? = some x) (hq : q[i]? = some y) : (x = y → p.take (i + 1) <+: q) ∧ (x ≠ y → ¬ p <+: q) := by
  obtain ⟨hil, hix⟩ := List.getElem?_eq_some_iff.1 hi
  obtain ⟨hql, hqy⟩ := List.getElem?_eq_some_iff.1 hq
  constructor
  · intro e
    obtain ⟨t, ht⟩ := hp
    have hti : (p.take i).length = i := by simp; omega
    have h0 : t[0]? = some y := by
      rw [← ht, List.getElem?_append_right (by omega), hti, Nat.sub_self] at hq
      exact hq
    cases t with
    | nil => simp at h0
    | cons z t =>
      simp at h0
      refine ⟨t, ?_⟩
      rw [List.take_succ_eq_append_getElem hil, hix, e, ← ht, h0]
      simp
  · rintro hne ⟨t, ht⟩
    rw [← ht, List.getElem?_append_left hil, hi] at hq
    exact hne (Option.some.inj hq)
set_option maxHeartbeats 2000000 in
theorem begins_ret {wb : World} {xs ys zs : List RecAt} {a1 a2 a3 : Option Addr} {c1 c2 c3 : Nat} (h1 : Recs wb a1 xs) (h2 : Recs wb a2 ys) (h3 : Recs wb a3 zs) (l1 : xs.length ≤ 1099511627776) (l2 : ys.length ≤ 1099511627776) (l3 : zs.length ≤ 1099511627776)
    (k : ∀ w' b, Pure wb w' → (b = true ↔ (ys.length ≤ xs.length ∧ rsOf xs <+: rsOf ys ++ rsOf zs)) → K (.bool b) w') : Ret Try.prog 47 #[.slice a1 xs.length c1, .slice a2 ys.length c2, .slice a3 zs.length c3] wb K := by
  have H := Hp.start (fun _ => False) wb
  have e1 : (rsOf xs).length = xs.length := by simp [rsOf]
  have e2 : (rsOf ys).length = ys.length := by simp [rsOf]
  have e3 : (rsOf zs).length = zs.length := by simp [rsOf]
  have m1 : (xs.length : Int) ≤ 1099511627776 := by omega
  have m2 : (ys.length : Int) ≤ 1099511627776 := by omega
  have m3 : (zs.length : Int) ≤ 1099511627776 := by omega
  apply e47
  unfold c47
  repeat (first | ((first | refine val_box H ?_ | refine val_alloc H (fun w => by simp [go_sem]; rfl) ?_); clear H; intro B w hB hp H; clear hB hp; try simp only [List.set_cons_zero, List.set_cons_succ, List.setIfInBounds_toArray, List.set_set, Value.cells] at H) | (first | refine val_ld H (fun w => by simp [go_sem]) (by with_reducible repeat (first | exact At.zero | apply At.succ)) (by rfl) ?_ | refine rd_ld H (fun w => by simp [go_sem]) (by with_reducible repeat (first | exact At.zero | apply At.succ)) (by rfl) ?_ | refine val_ldB H (by with_reducible repeat (first | exact At.zero | apply At.succ)) (aggT (by kernel_rfl)) ?_ | refine rd_ldB H (by with_reducible repeat (first | exact At.zero | apply At.succ)) (aggT (by kernel_rfl)) ?_) | ((first | refine unt_st H (by with_reducible repeat (first | exact At.zero | apply At.succ)) (fun w => by simp [go_sem]) (by rfl) (by rfl) ?_ | refine unt_stB H (by with_reducible repeat (first | exact At.zero | apply At.succ)) (aggT (by kernel_rfl)) (by rfl) (by rfl) ?_); clear H; intro w ho H; clear ho; try simp only [List.set_cons_zero, List.set_cons_succ, List.setIfInBounds_toArray, List.set_set, Value.cells] at H) | (refine val_at_bs ?_; ((refine val_run (by simp [go_sem]; (try simp (disch := omega) only [w_i64, w_u64, w_u32, w_u16, w_u8, w_i32]); rfl) ?_); refine onOk_bs H ?_; clear H; intro B w hB hp H; clear hB hp; try simp only [List.set_cons_zero, List.set_cons_succ, List.setIfInBounds_toArray, List.set_set, Value.cells] at H)) | (first | (refine val_run (by simp [bin, nilc, go_sem]; (try simp (disch := omega) only [w_i64, w_u64, w_u32, w_u16, w_u8, w_i32]); rfl) ?_; refine onOk_in ?_) | (refine pu_run (fun w => by simp [bin, nilc, go_sem]; (try simp (disch := omega) only [w_i64, w_u64, w_u32, w_u16, w_u8, w_i32]); rfl) ?_; refine puR_in ?_) | (refine tk_run (fun w => by simp [bin, nilc, go_sem]; (try simp (disch := omega) only [w_i64, w_u64, w_u32, w_u16, w_u8, w_i32]); rfl) ?_; refine puR_in ?_)) | (refine tk_at_in ?_) | (refine ph_at ?_) | (refine ph_pure (Only.refl _ _) ?_) | (refine ph_k H (by with_reducible repeat (first | exact At.zero | apply At.succ)) ?_) | (refine tk_k (fun w => by simp [go_sem]) (by rfl) ?_) | (refine ph_pure H.only ?_) | (refine ph_pure (hpT.trans H.only (fun _ _ k => k)) ?_) | (refine tk_pld H (fun w => by simp [go_sem]) (by with_reducible repeat (first | exact At.zero | apply At.succ)) (by rfl) ?_) | (refine tk_pldB H (by with_reducible repeat (first | exact At.zero | apply At.succ)) (aggT (by kernel_rfl)) ?_) | (refine gd_true_in ?_) | (refine gd_false_in ?_) | (refine gd_true_in' ?_) | (refine gd_false_in' ?_))
  refine gd_dec' (fun hA => ?_) (fun hA => ?_)
  rotate_left
  · refine k _ false H.only ?_
    simp
    intro h
    omega
  repeat (first | ((first | refine val_box H ?_ | refine val_alloc H (fun w => by simp [go_sem]; rfl) ?_); clear H; intro B w hB hp H; clear hB hp; try simp only [List.set_cons_zero, List.set_cons_succ, List.setIfInBounds_toArray, List.set_set, Value.cells] at H) | (first | refine val_ld H (fun w => by simp [go_sem]) (by with_reducible repeat (first | exact At.zero | apply At.succ)) (by rfl) ?_ | refine rd_ld H (fun w => by simp [go_sem]) (by with_reducible repeat (first | exact At.zero | apply At.succ)) (by rfl) ?_ | refine val_ldB H (by with_reducible repeat (first | exact At.zero | apply At.succ)) (aggT (by kernel_rfl)) ?_ | refine rd_ldB H (by with_reducible repeat (first | exact At.zero | apply At.succ)) (aggT (by kernel_rfl)) ?_) | ((first | refine unt_st H (by with_reducible repeat (first | exact At.zero | apply At.succ)) (fun w => by simp [go_sem]) (by rfl) (by rfl) ?_ | refine unt_stB H (by with_reducible repeat (first | exact At.zero | apply At.succ)) (aggT (by kernel_rfl)) (by rfl) (by rfl) ?_); clear H; intro w ho H; clear ho; try simp only [List.set_cons_zero, List.set_cons_succ, List.setIfInBounds_toArray, List.set_set, Value.cells] at H) | (refine val_at_bs ?_; ((refine val_run (by simp [go_sem]; (try simp (disch := omega) only [w_i64, w_u64, w_u32, w_u16, w_u8, w_i32]); rfl) ?_); refine onOk_bs H ?_; clear H; intro B w hB hp H; clear hB hp; try simp only [List.set_cons_zero, List.set_cons_succ, List.setIfInBounds_toArray, List.set_set, Value.cells] at H)) | (first | (refine val_run (by simp [bin, nilc, go_sem, m1, m2, m3]; (try simp (disch := omega) only [w_i64, w_u64, w_u32, w_u16, w_u8, w_i32]); rfl) ?_; refine onOk_in ?_) | (refine pu_run (fun w => by simp [bin, nilc, go_sem, m1, m2, m3]; (try simp (disch := omega) only [w_i64, w_u64, w_u32, w_u16, w_u8, w_i32]); rfl) ?_; refine puR_in ?_) | (refine tk_run (fun w => by simp [bin, nilc, go_sem, m1, m2, m3]; (try simp (disch := omega) only [w_i64, w_u64, w_u32, w_u16, w_u8, w_i32]); rfl) ?_; refine puR_in ?_)) | (refine tk_at_in ?_) | (refine ph_at ?_) | (refine ph_pure (Only.refl _ _) ?_) | (refine ph_k H (by with_reducible repeat (first | exact At.zero | apply At.succ)) ?_) | (refine tk_k (fun w => by simp [go_sem]) (by rfl) ?_) | (refine ph_pure H.only ?_) | (refine ph_pure (hpT.trans H.only (fun _ _ k => k)) ?_) | (refine tk_pld H (fun w => by simp [go_sem]) (by with_reducible repeat (first | exact At.zero | apply At.succ)) (by rfl) ?_) | (refine tk_pldB H (by with_reducible repeat (first | exact At.zero | apply At.succ)) (aggT (by kernel_rfl)) ?_) | (refine gd_true_in ?_) | (refine gd_false_in ?_) | (refine gd_true_in' ?_) | (refine gd_false_in' ?_))
  refine gd_dec (fun hB => ?_) (fun hB => ?_)
  · refine k _ false H.only ?_
    simp
    intro h h'
    have := h'.length_le
    simp [e1, e2, e3] at this
    omega
  repeat (first | ((first | refine val_box H ?_ | refine val_alloc H (fun w => by simp [go_sem]; rfl) ?_); clear H; intro B w hB hp H; clear hB hp; try simp only [List.set_cons_zero, List.set_cons_succ, List.setIfInBounds_toArray, List.set_set, Value.cells] at H) | (first | refine val_ld H (fun w => by simp [go_sem]) (by with_reducible repeat (first | exact At.zero | apply At.succ)) (by rfl) ?_ | refine rd_ld H (fun w => by simp [go_sem]) (by with_reducible repeat (first | exact At.zero | apply At.succ)) (by rfl) ?_ | refine val_ldB H (by with_reducible repeat (first | exact At.zero | apply At.succ)) (aggT (by kernel_rfl)) ?_ | refine rd_ldB H (by with_reducible repeat (first | exact At.zero | apply At.succ)) (aggT (by kernel_rfl)) ?_) | ((first | refine unt_st H (by with_reducible repeat (first | exact At.zero | apply At.succ)) (fun w => by simp [go_sem]) (by rfl) (by rfl) ?_ | refine unt_stB H (by with_reducible repeat (first | exact At.zero | apply At.succ)) (aggT (by kernel_rfl)) (by rfl) (by rfl) ?_); clear H; intro w ho H; clear ho; try simp only [List.set_cons_zero, List.set_cons_succ, List.setIfInBounds_toArray, List.set_set, Value.cells] at H) | (refine val_at_bs ?_; ((refine val_run (by simp [go_sem]; (try simp (disch := omega) only [w_i64, w_u64, w_u32, w_u16, w_u8, w_i32]); rfl) ?_); refine onOk_bs H ?_; clear H; intro B w hB hp H; clear hB hp; try simp only [List.set_cons_zero, List.set_cons_succ, List.setIfInBounds_toArray, List.set_set, Value.cells] at H)) | (first | (refine val_run (by simp [bin, nilc, go_sem]; (try simp (disch := omega) only [w_i64, w_u64, w_u32, w_u16, w_u8, w_i32]); rfl) ?_; refine onOk_in ?_) | (refine pu_run (fun w => by simp [bin, nilc, go_sem]; (try simp (disch := omega) only [w_i64, w_u64, w_u32, w_u16, w_u8, w_i32]); rfl) ?_; refine puR_in ?_) | (refine tk_run (fun w => by simp [bin, nilc, go_sem]; (try simp (disch := omega) only [w_i64, w_u64, w_u32, w_u16, w_u8, w_i32]); rfl) ?_; refine puR_in ?_)) | (refine tk_at_in ?_) | (refine ph_at ?_) | (refine ph_pure (Only.refl _ _) ?_) | (refine ph_k H (by with_reducible repeat (first | exact At.zero | apply At.succ)) ?_) | (refine tk_k (fun w => by simp [go_sem]) (by rfl) ?_) | (refine ph_pure H.only ?_) | (refine ph_pure (hpT.trans H.only (fun _ _ k => k)) ?_) | (refine tk_pld H (fun w => by simp [go_sem]) (by with_reducible repeat (first | exact At.zero | apply At.succ)) (by rfl) ?_) | (refine tk_pldB H (by with_reducible repeat (first | exact At.zero | apply At.succ)) (aggT (by kernel_rfl)) ?_) | (refine gd_true_in ?_) | (refine gd_false_in ?_) | (refine gd_true_in' ?_) | (refine gd_false_in' ?_))
  refine loop1 (fun v W => ∃ i : Nat, i ≤ xs.length ∧ v = .int .i64 i ∧ (rsOf xs).take i <+: rsOf ys ++ rsOf zs ∧ Hp (fun _ => False) wb W []) (fun v _ => xs.length - (intOf v).toNat) ⟨0, by omega, rfl, by simp, H⟩ ?_
  clear H
  rintro _ w2 ⟨i, hi, rfl, hpre, H⟩
  unfold c47_1
  repeat (first | ((first | refine val_box H ?_ | refine val_alloc H (fun w => by simp [go_sem]; rfl) ?_); clear H; intro B w hB hp H; clear hB hp; try simp only [List.set_cons_zero, List.set_cons_succ, List.setIfInBounds_toArray, List.set_set, Value.cells] at H) | (first | refine val_ld H (fun w => by simp [go_sem]) (by with_reducible repeat (first | exact At.zero | apply At.succ)) (by rfl) ?_ | refine rd_ld H (fun w => by simp [go_sem]) (by with_reducible repeat (first | exact At.zero | apply At.succ)) (by rfl) ?_ | refine val_ldB H (by with_reducible repeat (first | exact At.zero | apply At.succ)) (aggT (by kernel_rfl)) ?_ | refine rd_ldB H (by with_reducible repeat (first | exact At.zero | apply At.succ)) (aggT (by kernel_rfl)) ?_) | ((first | refine unt_st H (by with_reducible repeat (first | exact At.zero | apply At.succ)) (fun w => by simp [go_sem]) (by rfl) (by rfl) ?_ | refine unt_stB H (by with_reducible repeat (first | exact At.zero | apply At.succ)) (aggT (by kernel_rfl)) (by rfl) (by rfl) ?_); clear H; intro w ho H; clear ho; try simp only [List.set_cons_zero, List.set_cons_succ, List.setIfInBounds_toArray, List.set_set, Value.cells] at H) | (refine val_at_bs ?_; ((refine val_run (by simp [go_sem]; (try simp (disch := omega) only [w_i64, w_u64, w_u32, w_u16, w_u8, w_i32]); rfl) ?_); refine onOk_bs H ?_; clear H; intro B w hB hp H; clear hB hp; try simp only [List.set_cons_zero, List.set_cons_succ, List.setIfInBounds_toArray, List.set_set, Value.cells] at H)) | (first | (refine val_run (by simp [bin, nilc, go_sem]; (try simp (disch := omega) only [w_i64, w_u64, w_u32, w_u16, w_u8, w_i32]); rfl) ?_; refine onOk_in ?_) | (refine pu_run (fun w => by simp [bin, nilc, go_sem]; (try simp (disch := omega) only [w_i64, w_u64, w_u32, w_u16, w_u8, w_i32]); rfl) ?_; refine puR_in ?_) | (refine tk_run (fun w => by simp [bin, nilc, go_sem]; (try simp (disch := omega) only [w_i64, w_u64, w_u32, w_u16, w_u8, w_i32]); rfl) ?_; refine puR_in ?_)) | (refine tk_at_in ?_) | (refine ph_at ?_) | (refine ph_pure (Only.refl _ _) ?_) | (refine ph_k H (by with_reducible repeat (first | exact At.zero | apply At.succ)) ?_) | (refine tk_k (fun w => by simp [go_sem]) (by rfl) ?_) | (refine ph_pure H.only ?_) | (refine ph_pure (hpT.trans H.only (fun _ _ k => k)) ?_) | (refine tk_pld H (fun w => by simp [go_sem]) (by with_reducible repeat (first | exact At.zero | apply At.succ)) (by rfl) ?_) | (refine tk_pldB H (by with_reducible repeat (first | exact At.zero | apply At.succ)) (aggT (by kernel_rfl)) ?_) | (refine gd_true_in ?_) | (refine gd_false_in ?_) | (refine gd_true_in' ?_) | (refine gd_false_in' ?_))
  refine gd_dec (fun hlt => ?_) (fun hlt => ?_)
  · have hlt0 : i < xs.length := by omega
    obtain ⟨b1, o1, rfl⟩ := h1.at_ hlt0
    have hp1 := (h1.part hlt0 (a := none)).pure H.only
    have hgx : (rsOf xs)[i]? = some xs[i].r := by simp [rsOf, hlt0]
    have hce : xs[i].cells = [.int .u8 xs[i].r.k.toNat, .slice xs[i].a xs[i].r.d.length xs[i].cap] := rfl
    have hx1 := h1.2 _ (List.getElem_mem hlt0)
    repeat (first | ((first | refine val_box H ?_ | refine val_alloc H (fun w => by simp [go_sem]; rfl) ?_); clear H; intro B w hB hp H; clear hB hp; try simp only [List.set_cons_zero, List.set_cons_succ, List.setIfInBounds_toArray, List.set_set, Value.cells] at H) | (first | refine val_ld H (fun w => by simp [go_sem]) (by with_reducible repeat (first | exact At.zero | apply At.succ)) (by rfl) ?_ | refine rd_ld H (fun w => by simp [go_sem]) (by with_reducible repeat (first | exact At.zero | apply At.succ)) (by rfl) ?_ | refine val_ldB H (by with_reducible repeat (first | exact At.zero | apply At.succ)) (aggT (by kernel_rfl)) ?_ | refine rd_ldB H (by with_reducible repeat (first | exact At.zero | apply At.succ)) (aggT (by kernel_rfl)) ?_) | ((first | refine unt_st H (by with_reducible repeat (first | exact At.zero | apply At.succ)) (fun w => by simp [go_sem]) (by rfl) (by rfl) ?_ | refine unt_stB H (by with_reducible repeat (first | exact At.zero | apply At.succ)) (aggT (by kernel_rfl)) (by rfl) (by rfl) ?_); clear H; intro w ho H; clear ho; try simp only [List.set_cons_zero, List.set_cons_succ, List.setIfInBounds_toArray, List.set_set, Value.cells] at H) | (refine val_at_bs ?_; ((refine val_run (by simp [go_sem]; (try simp (disch := omega) only [w_i64, w_u64, w_u32, w_u16, w_u8, w_i32]); rfl) ?_); refine onOk_bs H ?_; clear H; intro B w hB hp H; clear hB hp; try simp only [List.set_cons_zero, List.set_cons_succ, List.setIfInBounds_toArray, List.set_set, Value.cells] at H)) | (first | (refine val_run (by simp [bin, nilc, go_sem, hlt]; (try simp (disch := omega) only [w_i64, w_u64, w_u32, w_u16, w_u8, w_i32]); rfl) ?_; refine onOk_in ?_) | (refine pu_run (fun w => by simp [bin, nilc, go_sem, hlt]; (try simp (disch := omega) only [w_i64, w_u64, w_u32, w_u16, w_u8, w_i32]); rfl) ?_; refine puR_in ?_) | (refine tk_run (fun w => by simp [bin, nilc, go_sem, hlt]; (try simp (disch := omega) only [w_i64, w_u64, w_u32, w_u16, w_u8, w_i32]); rfl) ?_; refine puR_in ?_)) | (refine tk_at_in ?_) | (refine ph_at ?_) | (refine ph_pure (Only.refl _ _) ?_) | (refine ph_k H (by with_reducible repeat (first | exact At.zero | apply At.succ)) ?_) | (refine tk_k (fun w => by simp [go_sem]) (by rfl) ?_) | (refine ph_pure H.only ?_) | (refine ph_pure (hpT.trans H.only (fun _ _ k => k)) ?_) | (refine tk_pld H (fun w => by simp [go_sem]) (by with_reducible repeat (first | exact At.zero | apply At.succ)) (by rfl) ?_) | (refine tk_pldB H (by with_reducible repeat (first | exact At.zero | apply At.succ)) (aggT (by kernel_rfl)) ?_) | (refine gd_true_in ?_) | (refine gd_false_in ?_) | (refine gd_true_in' ?_) | (refine gd_false_in' ?_))
    refine val_ldl (aggT (by kernel_rfl)) rfl hp1 ?_
    rw [hce]
    repeat (first | ((first | refine val_box H ?_ | refine val_alloc H (fun w => by simp [go_sem]; rfl) ?_); clear H; intro B w hB hp H; clear hB hp; try simp only [List.set_cons_zero, List.set_cons_succ, List.setIfInBounds_toArray, List.set_set, Value.cells] at H) | (first | refine val_ld H (fun w => by simp [go_sem]) (by with_reducible repeat (first | exact At.zero | apply At.succ)) (by rfl) ?_ | refine rd_ld H (fun w => by simp [go_sem]) (by with_reducible repeat (first | exact At.zero | apply At.succ)) (by rfl) ?_ | refine val_ldB H (by with_reducible repeat (first | exact At.zero | apply At.succ)) (aggT (by kernel_rfl)) ?_ | refine rd_ldB H (by with_reducible repeat (first | exact At.zero | apply At.succ)) (aggT (by kernel_rfl)) ?_) | ((first | refine unt_st H (by with_reducible repeat (first | exact At.zero | apply At.succ)) (fun w => by simp [go_sem]) (by rfl) (by rfl) ?_ | refine unt_stB H (by with_reducible repeat (first | exact At.zero | apply At.succ)) (aggT (by kernel_rfl)) (by rfl) (by rfl) ?_); clear H; intro w ho H; clear ho; try simp only [List.set_cons_zero, List.set_cons_succ, List.setIfInBounds_toArray, List.set_set, Value.cells] at H) | (refine val_at_bs ?_; ((refine val_run (by simp [go_sem]; (try simp (disch := omega) only [w_i64, w_u64, w_u32, w_u16, w_u8, w_i32]); rfl) ?_); refine onOk_bs H ?_; clear H; intro B w hB hp H; clear hB hp; try simp only [List.set_cons_zero, List.set_cons_succ, List.setIfInBounds_toArray, List.set_set, Value.cells] at H)) | (first | (refine val_run (by simp [bin, nilc, go_sem]; (try simp (disch := omega) only [w_i64, w_u64, w_u32, w_u16, w_u8, w_i32]); rfl) ?_; refine onOk_in ?_) | (refine pu_run (fun w => by simp [bin, nilc, go_sem]; (try simp (disch := omega) only [w_i64, w_u64, w_u32, w_u16, w_u8, w_i32]); rfl) ?_; refine puR_in ?_) | (refine tk_run (fun w => by simp [bin, nilc, go_sem]; (try simp (disch := omega) only [w_i64, w_u64, w_u32, w_u16, w_u8, w_i32]); rfl) ?_; refine puR_in ?_)) | (refine tk_at_in ?_) | (refine ph_at ?_) | (refine ph_pure (Only.refl _ _) ?_) | (refine ph_k H (by with_reducible repeat (first | exact At.zero | apply At.succ)) ?_) | (refine tk_k (fun w => by simp [go_sem]) (by rfl) ?_) | (refine ph_pure H.only ?_) | (refine ph_pure (hpT.trans H.only (fun _ _ k => k)) ?_) | (refine tk_pld H (fun w => by simp [go_sem]) (by with_reducible repeat (first | exact At.zero | apply At.succ)) (by rfl) ?_) | (refine tk_pldB H (by with_reducible repeat (first | exact At.zero | apply At.succ)) (aggT (by kernel_rfl)) ?_) | (refine gd_true_in ?_) | (refine gd_false_in ?_) | (refine gd_true_in' ?_) | (refine gd_false_in' ?_))
    refine drw_pure H fun w3 hp3 H => ?_
    clear hp3
    have hp03 := H.only
    repeat (first | ((first | refine val_box H ?_ | refine val_alloc H (fun w => by simp [go_sem]; rfl) ?_); clear H; intro B w hB hp H; clear hB hp; try simp only [List.set_cons_zero, List.set_cons_succ, List.setIfInBounds_toArray, List.set_set, Value.cells] at H) | (first | refine val_ld H (fun w => by simp [go_sem]) (by with_reducible repeat (first | exact At.zero | apply At.succ)) (by rfl) ?_ | refine rd_ld H (fun w => by simp [go_sem]) (by with_reducible repeat (first | exact At.zero | apply At.succ)) (by rfl) ?_ | refine val_ldB H (by with_reducible repeat (first | exact At.zero | apply At.succ)) (aggT (by kernel_rfl)) ?_ | refine rd_ldB H (by with_reducible repeat (first | exact At.zero | apply At.succ)) (aggT (by kernel_rfl)) ?_) | ((first | refine unt_st H (by with_reducible repeat (first | exact At.zero | apply At.succ)) (fun w => by simp [go_sem]) (by rfl) (by rfl) ?_ | refine unt_stB H (by with_reducible repeat (first | exact At.zero | apply At.succ)) (aggT (by kernel_rfl)) (by rfl) (by rfl) ?_); clear H; intro w ho H; clear ho; try simp only [List.set_cons_zero, List.set_cons_succ, List.setIfInBounds_toArray, List.set_set, Value.cells] at H) | (refine val_at_bs ?_; ((refine val_run (by simp [go_sem]; (try simp (disch := omega) only [w_i64, w_u64, w_u32, w_u16, w_u8, w_i32]); rfl) ?_); refine onOk_bs H ?_; clear H; intro B w hB hp H; clear hB hp; try simp only [List.set_cons_zero, List.set_cons_succ, List.setIfInBounds_toArray, List.set_set, Value.cells] at H)) | (first | (refine val_run (by simp [bin, nilc, go_sem, m2]; (try simp (disch := omega) only [w_i64, w_u64, w_u32, w_u16, w_u8, w_i32]); rfl) ?_; refine onOk_in ?_) | (refine pu_run (fun w => by simp [bin, nilc, go_sem, m2]; (try simp (disch := omega) only [w_i64, w_u64, w_u32, w_u16, w_u8, w_i32]); rfl) ?_; refine puR_in ?_) | (refine tk_run (fun w => by simp [bin, nilc, go_sem, m2]; (try simp (disch := omega) only [w_i64, w_u64, w_u32, w_u16, w_u8, w_i32]); rfl) ?_; refine puR_in ?_)) | (refine tk_at_in ?_) | (refine ph_at ?_) | (refine ph_pure (Only.refl _ _) ?_) | (refine ph_k H (by with_reducible repeat (first | exact At.zero | apply At.succ)) ?_) | (refine tk_k (fun w => by simp [go_sem]) (by rfl) ?_) | (refine ph_pure H.only ?_) | (refine ph_pure (hpT.trans H.only (fun _ _ k => k)) ?_) | (refine tk_pld H (fun w => by simp [go_sem]) (by with_reducible repeat (first | exact At.zero | apply At.succ)) (by rfl) ?_) | (refine tk_pldB H (by with_reducible repeat (first | exact At.zero | apply At.succ)) (aggT (by kernel_rfl)) ?_) | (refine gd_true_in ?_) | (refine gd_false_in ?_) | (refine gd_true_in' ?_) | (refine gd_false_in' ?_))
    refine gd_dec (fun hiy => ?_) (fun hiy => ?_)
    · have hiy0 : i < ys.length := by omega
      have hiy1 : (i : Int) < (ys.length : Int) := by omega
      have hiy2 : decide (ys.length ≤ i) = false := by simp; omega
      have hiy3 : decide ((ys.length : Int) ≤ (i : Int)) = false := by simp; omega
      obtain ⟨b2, o2, rfl⟩ := h2.at_ hiy0
      have hp2 := (h2.part hiy0 (a := none)).pure hp03
      have hx2 := (h2.2 _ (List.getElem_mem hiy0)).pure hp03
      have hce2 : ys[i].cells = [.int .u8 ys[i].r.k.toNat, .slice ys[i].a ys[i].r.d.length ys[i].cap] := rfl
      have hgq : (rsOf ys ++ rsOf zs)[i]? = some ys[i].r := by rw [List.getElem?_append_left (by omega)]; simp [rsOf, hiy0]
      obtain ⟨st1, st2⟩ := pre_step hpre hgx hgq
      repeat (first | ((first | refine val_box H ?_ | refine val_alloc H (fun w => by simp [go_sem]; rfl) ?_); clear H; intro B w hB hp H; clear hB hp; try simp only [List.set_cons_zero, List.set_cons_succ, List.setIfInBounds_toArray, List.set_set, Value.cells] at H) | (first | refine val_ld H (fun w => by simp [go_sem]) (by with_reducible repeat (first | exact At.zero | apply At.succ)) (by rfl) ?_ | refine rd_ld H (fun w => by simp [go_sem]) (by with_reducible repeat (first | exact At.zero | apply At.succ)) (by rfl) ?_ | refine val_ldB H (by with_reducible repeat (first | exact At.zero | apply At.succ)) (aggT (by kernel_rfl)) ?_ | refine rd_ldB H (by with_reducible repeat (first | exact At.zero | apply At.succ)) (aggT (by kernel_rfl)) ?_) | ((first | refine unt_st H (by with_reducible repeat (first | exact At.zero | apply At.succ)) (fun w => by simp [go_sem]) (by rfl) (by rfl) ?_ | refine unt_stB H (by with_reducible repeat (first | exact At.zero | apply At.succ)) (aggT (by kernel_rfl)) (by rfl) (by rfl) ?_); clear H; intro w ho H; clear ho; try simp only [List.set_cons_zero, List.set_cons_succ, List.setIfInBounds_toArray, List.set_set, Value.cells] at H) | (refine val_at_bs ?_; ((refine val_run (by simp [go_sem]; (try simp (disch := omega) only [w_i64, w_u64, w_u32, w_u16, w_u8, w_i32]); rfl) ?_); refine onOk_bs H ?_; clear H; intro B w hB hp H; clear hB hp; try simp only [List.set_cons_zero, List.set_cons_succ, List.setIfInBounds_toArray, List.set_set, Value.cells] at H)) | (first | (refine val_run (by simp [bin, nilc, go_sem, hiy1]; (try simp (disch := omega) only [w_i64, w_u64, w_u32, w_u16, w_u8, w_i32]); rfl) ?_; refine onOk_in ?_) | (refine pu_run (fun w => by simp [bin, nilc, go_sem, hiy1]; (try simp (disch := omega) only [w_i64, w_u64, w_u32, w_u16, w_u8, w_i32]); rfl) ?_; refine puR_in ?_) | (refine tk_run (fun w => by simp [bin, nilc, go_sem, hiy1]; (try simp (disch := omega) only [w_i64, w_u64, w_u32, w_u16, w_u8, w_i32]); rfl) ?_; refine puR_in ?_)) | (refine tk_at_in ?_) | (refine ph_at ?_) | (refine ph_pure (Only.refl _ _) ?_) | (refine ph_k H (by with_reducible repeat (first | exact At.zero | apply At.succ)) ?_) | (refine tk_k (fun w => by simp [go_sem]) (by rfl) ?_) | (refine ph_pure H.only ?_) | (refine ph_pure (hpT.trans H.only (fun _ _ k => k)) ?_) | (refine tk_pld H (fun w => by simp [go_sem]) (by with_reducible repeat (first | exact At.zero | apply At.succ)) (by rfl) ?_) | (refine tk_pldB H (by with_reducible repeat (first | exact At.zero | apply At.succ)) (aggT (by kernel_rfl)) ?_) | (refine gd_true_in ?_) | (refine gd_false_in ?_) | (refine gd_true_in' ?_) | (refine gd_false_in' ?_))
      refine tk_pll (aggT (by kernel_rfl)) rfl hp2 ?_
      rw [hce2]
      refine same5_ret (hx1.pure hp03) hx2 fun w4 b hp4 hb => ?_
      have hHH := H
      replace H := H.pure hp4
      refine ph_pure hp4 ?_
      repeat (first | ((first | refine val_box H ?_ | refine val_alloc H (fun w => by simp [go_sem]; rfl) ?_); clear H; intro B w hB hp H; clear hB hp; try simp only [List.set_cons_zero, List.set_cons_succ, List.setIfInBounds_toArray, List.set_set, Value.cells] at H) | (first | refine val_ld H (fun w => by simp [go_sem]) (by with_reducible repeat (first | exact At.zero | apply At.succ)) (by rfl) ?_ | refine rd_ld H (fun w => by simp [go_sem]) (by with_reducible repeat (first | exact At.zero | apply At.succ)) (by rfl) ?_ | refine val_ldB H (by with_reducible repeat (first | exact At.zero | apply At.succ)) (aggT (by kernel_rfl)) ?_ | refine rd_ldB H (by with_reducible repeat (first | exact At.zero | apply At.succ)) (aggT (by kernel_rfl)) ?_) | ((first | refine unt_st H (by with_reducible repeat (first | exact At.zero | apply At.succ)) (fun w => by simp [go_sem]) (by rfl) (by rfl) ?_ | refine unt_stB H (by with_reducible repeat (first | exact At.zero | apply At.succ)) (aggT (by kernel_rfl)) (by rfl) (by rfl) ?_); clear H; intro w ho H; clear ho; try simp only [List.set_cons_zero, List.set_cons_succ, List.setIfInBounds_toArray, List.set_set, Value.cells] at H) | (refine val_at_bs ?_; ((refine val_run (by simp [go_sem]; (try simp (disch := omega) only [w_i64, w_u64, w_u32, w_u16, w_u8, w_i32]); rfl) ?_); refine onOk_bs H ?_; clear H; intro B w hB hp H; clear hB hp; try simp only [List.set_cons_zero, List.set_cons_succ, List.setIfInBounds_toArray, List.set_set, Value.cells] at H)) | (first | (refine val_run (by simp [bin, nilc, go_sem]; (try simp (disch := omega) only [w_i64, w_u64, w_u32, w_u16, w_u8, w_i32]); rfl) ?_; refine onOk_in ?_) | (refine pu_run (fun w => by simp [bin, nilc, go_sem]; (try simp (disch := omega) only [w_i64, w_u64, w_u32, w_u16, w_u8, w_i32]); rfl) ?_; refine puR_in ?_) | (refine tk_run (fun w => by simp [bin, nilc, go_sem]; (try simp (disch := omega) only [w_i64, w_u64, w_u32, w_u16, w_u8, w_i32]); rfl) ?_; refine puR_in ?_)) | (refine tk_at_in ?_) | (refine ph_at ?_) | (refine ph_pure (Only.refl _ _) ?_) | (refine ph_k H (by with_reducible repeat (first | exact At.zero | apply At.succ)) ?_) | (refine tk_k (fun w => by simp [go_sem]) (by rfl) ?_) | (refine ph_pure H.only ?_) | (refine ph_pure (hpT.trans H.only (fun _ _ k => k)) ?_) | (refine tk_pld H (fun w => by simp [go_sem]) (by with_reducible repeat (first | exact At.zero | apply At.succ)) (by rfl) ?_) | (refine tk_pldB H (by with_reducible repeat (first | exact At.zero | apply At.succ)) (aggT (by kernel_rfl)) ?_) | (refine gd_true_in ?_) | (refine gd_false_in ?_) | (refine gd_true_in' ?_) | (refine gd_false_in' ?_))
      refine gd_case' (fun hc => ?_) (fun hc => ?_)
      · have hbt : xs[i].r = ys[i].r := hb.1 (by simpa using hc)
        repeat (first | ((first | refine val_box H ?_ | refine val_alloc H (fun w => by simp [go_sem]; rfl) ?_); clear H; intro B w hB hp H; clear hB hp; try simp only [List.set_cons_zero, List.set_cons_succ, List.setIfInBounds_toArray, List.set_set, Value.cells] at H) | (first | refine val_ld H (fun w => by simp [go_sem]) (by with_reducible repeat (first | exact At.zero | apply At.succ)) (by rfl) ?_ | refine rd_ld H (fun w => by simp [go_sem]) (by with_reducible repeat (first | exact At.zero | apply At.succ)) (by rfl) ?_ | refine val_ldB H (by with_reducible repeat (first | exact At.zero | apply At.succ)) (aggT (by kernel_rfl)) ?_ | refine rd_ldB H (by with_reducible repeat (first | exact At.zero | apply At.succ)) (aggT (by kernel_rfl)) ?_) | ((first | refine unt_st H (by with_reducible repeat (first | exact At.zero | apply At.succ)) (fun w => by simp [go_sem]) (by rfl) (by rfl) ?_ | refine unt_stB H (by with_reducible repeat (first | exact At.zero | apply At.succ)) (aggT (by kernel_rfl)) (by rfl) (by rfl) ?_); clear H; intro w ho H; clear ho; try simp only [List.set_cons_zero, List.set_cons_succ, List.setIfInBounds_toArray, List.set_set, Value.cells] at H) | (refine val_at_bs ?_; ((refine val_run (by simp [go_sem]; (try simp (disch := omega) only [w_i64, w_u64, w_u32, w_u16, w_u8, w_i32]); rfl) ?_); refine onOk_bs H ?_; clear H; intro B w hB hp H; clear hB hp; try simp only [List.set_cons_zero, List.set_cons_succ, List.setIfInBounds_toArray, List.set_set, Value.cells] at H)) | (first | (refine val_run (by simp [bin, nilc, go_sem, hiy2, hiy3]; (try simp (disch := omega) only [w_i64, w_u64, w_u32, w_u16, w_u8, w_i32]); rfl) ?_; refine onOk_in ?_) | (refine pu_run (fun w => by simp [bin, nilc, go_sem, hiy2, hiy3]; (try simp (disch := omega) only [w_i64, w_u64, w_u32, w_u16, w_u8, w_i32]); rfl) ?_; refine puR_in ?_) | (refine tk_run (fun w => by simp [bin, nilc, go_sem, hiy2, hiy3]; (try simp (disch := omega) only [w_i64, w_u64, w_u32, w_u16, w_u8, w_i32]); rfl) ?_; refine puR_in ?_)) | (refine tk_at_in ?_) | (refine ph_at ?_) | (refine ph_pure (Only.refl _ _) ?_) | (refine ph_k H (by with_reducible repeat (first | exact At.zero | apply At.succ)) ?_) | (refine tk_k (fun w => by simp [go_sem]) (by rfl) ?_) | (refine ph_pure H.only ?_) | (refine ph_pure (hpT.trans H.only (fun _ _ k => k)) ?_) | (refine tk_pld H (fun w => by simp [go_sem]) (by with_reducible repeat (first | exact At.zero | apply At.succ)) (by rfl) ?_) | (refine tk_pldB H (by with_reducible repeat (first | exact At.zero | apply At.succ)) (aggT (by kernel_rfl)) ?_) | (refine gd_true_in ?_) | (refine gd_false_in ?_) | (refine gd_true_in' ?_) | (refine gd_false_in' ?_))
        refine ph_pure hp4 ?_
        repeat (first | ((first | refine val_box H ?_ | refine val_alloc H (fun w => by simp [go_sem]; rfl) ?_); clear H; intro B w hB hp H; clear hB hp; try simp only [List.set_cons_zero, List.set_cons_succ, List.setIfInBounds_toArray, List.set_set, Value.cells] at H) | (first | refine val_ld H (fun w => by simp [go_sem]) (by with_reducible repeat (first | exact At.zero | apply At.succ)) (by rfl) ?_ | refine rd_ld H (fun w => by simp [go_sem]) (by with_reducible repeat (first | exact At.zero | apply At.succ)) (by rfl) ?_ | refine val_ldB H (by with_reducible repeat (first | exact At.zero | apply At.succ)) (aggT (by kernel_rfl)) ?_ | refine rd_ldB H (by with_reducible repeat (first | exact At.zero | apply At.succ)) (aggT (by kernel_rfl)) ?_) | ((first | refine unt_st H (by with_reducible repeat (first | exact At.zero | apply At.succ)) (fun w => by simp [go_sem]) (by rfl) (by rfl) ?_ | refine unt_stB H (by with_reducible repeat (first | exact At.zero | apply At.succ)) (aggT (by kernel_rfl)) (by rfl) (by rfl) ?_); clear H; intro w ho H; clear ho; try simp only [List.set_cons_zero, List.set_cons_succ, List.setIfInBounds_toArray, List.set_set, Value.cells] at H) | (refine val_at_bs ?_; ((refine val_run (by simp [go_sem]; (try simp (disch := omega) only [w_i64, w_u64, w_u32, w_u16, w_u8, w_i32]); rfl) ?_); refine onOk_bs H ?_; clear H; intro B w hB hp H; clear hB hp; try simp only [List.set_cons_zero, List.set_cons_succ, List.setIfInBounds_toArray, List.set_set, Value.cells] at H)) | (first | (refine val_run (by simp [bin, nilc, go_sem]; (try simp (disch := omega) only [w_i64, w_u64, w_u32, w_u16, w_u8, w_i32]); rfl) ?_; refine onOk_in ?_) | (refine pu_run (fun w => by simp [bin, nilc, go_sem]; (try simp (disch := omega) only [w_i64, w_u64, w_u32, w_u16, w_u8, w_i32]); rfl) ?_; refine puR_in ?_) | (refine tk_run (fun w => by simp [bin, nilc, go_sem]; (try simp (disch := omega) only [w_i64, w_u64, w_u32, w_u16, w_u8, w_i32]); rfl) ?_; refine puR_in ?_)) | (refine tk_at_in ?_) | (refine ph_at ?_) | (refine ph_pure (Only.refl _ _) ?_) | (refine ph_k H (by with_reducible repeat (first | exact At.zero | apply At.succ)) ?_) | (refine tk_k (fun w => by simp [go_sem]) (by rfl) ?_) | (refine ph_pure H.only ?_) | (refine ph_pure (hpT.trans H.only (fun _ _ k => k)) ?_) | (refine tk_pld H (fun w => by simp [go_sem]) (by with_reducible repeat (first | exact At.zero | apply At.succ)) (by rfl) ?_) | (refine tk_pldB H (by with_reducible repeat (first | exact At.zero | apply At.succ)) (aggT (by kernel_rfl)) ?_) | (refine gd_true_in ?_) | (refine gd_false_in ?_) | (refine gd_true_in' ?_) | (refine gd_false_in' ?_))
        exact ⟨⟨i + 1, by omega, by simp, st1 hbt, H.drop (by simp)⟩, by simp [intOf]; omega⟩
      · have hbf : xs[i].r ≠ ys[i].r := fun e => by have := hb.2 e; rw [this] at hc; cases hc
        refine ph_pure hp4 ?_
        exact k _ false H.only ⟨fun h => (by cases h), fun h => absurd h.2 (st2 hbf)⟩
    · have hiy0 : ys.length ≤ i := by omega
      have hiy2 : decide (ys.length ≤ i) = true := by simp; omega
      have hiy3 : decide ((ys.length : Int) ≤ (i : Int)) = true := by simp; omega
      have hjz : i - ys.length < zs.length := by omega
      have hji : (i : Int) - (ys.length : Int) = ((i - ys.length : Nat) : Int) := by omega
      have hjz1 : ((i - ys.length : Nat) : Int) < (zs.length : Int) := by omega
      obtain ⟨b3, o3, rfl⟩ := h3.at_ hjz
      have hp2 := (h3.part hjz (a := none)).pure hp03
      have hx2 := (h3.2 _ (List.getElem_mem hjz)).pure hp03
      have hce2 : zs[i - ys.length].cells = [.int .u8 zs[i - ys.length].r.k.toNat, .slice zs[i - ys.length].a zs[i - ys.length].r.d.length zs[i - ys.length].cap] := rfl
      have hgq : (rsOf ys ++ rsOf zs)[i]? = some zs[i - ys.length].r := by
        rw [List.getElem?_append_right (by omega), e2]
        simp [rsOf, hjz]
      obtain ⟨st1, st2⟩ := pre_step hpre hgx hgq
      refine ph_pure (Only.refl _ _) ?_
      have m1i : (i : Int) ≤ 1099511627776 := by omega
      repeat (first | ((first | refine val_box H ?_ | refine val_alloc H (fun w => by simp [go_sem]; rfl) ?_); clear H; intro B w hB hp H; clear hB hp; try simp only [List.set_cons_zero, List.set_cons_succ, List.setIfInBounds_toArray, List.set_set, Value.cells] at H) | (first | refine val_ld H (fun w => by simp [go_sem]) (by with_reducible repeat (first | exact At.zero | apply At.succ)) (by rfl) ?_ | refine rd_ld H (fun w => by simp [go_sem]) (by with_reducible repeat (first | exact At.zero | apply At.succ)) (by rfl) ?_ | refine val_ldB H (by with_reducible repeat (first | exact At.zero | apply At.succ)) (aggT (by kernel_rfl)) ?_ | refine rd_ldB H (by with_reducible repeat (first | exact At.zero | apply At.succ)) (aggT (by kernel_rfl)) ?_) | ((first | refine unt_st H (by with_reducible repeat (first | exact At.zero | apply At.succ)) (fun w => by simp [go_sem]) (by rfl) (by rfl) ?_ | refine unt_stB H (by with_reducible repeat (first | exact At.zero | apply At.succ)) (aggT (by kernel_rfl)) (by rfl) (by rfl) ?_); clear H; intro w ho H; clear ho; try simp only [List.set_cons_zero, List.set_cons_succ, List.setIfInBounds_toArray, List.set_set, Value.cells] at H) | (refine val_at_bs ?_; ((refine val_run (by simp [go_sem]; (try simp (disch := omega) only [w_i64, w_u64, w_u32, w_u16, w_u8, w_i32]); rfl) ?_); refine onOk_bs H ?_; clear H; intro B w hB hp H; clear hB hp; try simp only [List.set_cons_zero, List.set_cons_succ, List.setIfInBounds_toArray, List.set_set, Value.cells] at H)) | (first | (refine val_run (by simp [bin, nilc, go_sem, hiy2, hiy3, m2, m1i]; (try simp (disch := omega) only [w_i64, w_u64, w_u32, w_u16, w_u8, w_i32]); rfl) ?_; refine onOk_in ?_) | (refine pu_run (fun w => by simp [bin, nilc, go_sem, hiy2, hiy3, m2, m1i]; (try simp (disch := omega) only [w_i64, w_u64, w_u32, w_u16, w_u8, w_i32]); rfl) ?_; refine puR_in ?_) | (refine tk_run (fun w => by simp [bin, nilc, go_sem, hiy2, hiy3, m2, m1i]; (try simp (disch := omega) only [w_i64, w_u64, w_u32, w_u16, w_u8, w_i32]); rfl) ?_; refine puR_in ?_)) | (refine tk_at_in ?_) | (refine ph_at ?_) | (refine ph_pure (Only.refl _ _) ?_) | (refine ph_k H (by with_reducible repeat (first | exact At.zero | apply At.succ)) ?_) | (refine tk_k (fun w => by simp [go_sem]) (by rfl) ?_) | (refine ph_pure H.only ?_) | (refine ph_pure (hpT.trans H.only (fun _ _ k => k)) ?_) | (refine tk_pld H (fun w => by simp [go_sem]) (by with_reducible repeat (first | exact At.zero | apply At.succ)) (by rfl) ?_) | (refine tk_pldB H (by with_reducible repeat (first | exact At.zero | apply At.succ)) (aggT (by kernel_rfl)) ?_) | (refine gd_true_in ?_) | (refine gd_false_in ?_) | (refine gd_true_in' ?_) | (refine gd_false_in' ?_))
      rw [hji]
      repeat (first | ((first | refine val_box H ?_ | refine val_alloc H (fun w => by simp [go_sem]; rfl) ?_); clear H; intro B w hB hp H; clear hB hp; try simp only [List.set_cons_zero, List.set_cons_succ, List.setIfInBounds_toArray, List.set_set, Value.cells] at H) | (first | refine val_ld H (fun w => by simp [go_sem]) (by with_reducible repeat (first | exact At.zero | apply At.succ)) (by rfl) ?_ | refine rd_ld H (fun w => by simp [go_sem]) (by with_reducible repeat (first | exact At.zero | apply At.succ)) (by rfl) ?_ | refine val_ldB H (by with_reducible repeat (first | exact At.zero | apply At.succ)) (aggT (by kernel_rfl)) ?_ | refine rd_ldB H (by with_reducible repeat (first | exact At.zero | apply At.succ)) (aggT (by kernel_rfl)) ?_) | ((first | refine unt_st H (by with_reducible repeat (first | exact At.zero | apply At.succ)) (fun w => by simp [go_sem]) (by rfl) (by rfl) ?_ | refine unt_stB H (by with_reducible repeat (first | exact At.zero | apply At.succ)) (aggT (by kernel_rfl)) (by rfl) (by rfl) ?_); clear H; intro w ho H; clear ho; try simp only [List.set_cons_zero, List.set_cons_succ, List.setIfInBounds_toArray, List.set_set, Value.cells] at H) | (refine val_at_bs ?_; ((refine val_run (by simp [go_sem]; (try simp (disch := omega) only [w_i64, w_u64, w_u32, w_u16, w_u8, w_i32]); rfl) ?_); refine onOk_bs H ?_; clear H; intro B w hB hp H; clear hB hp; try simp only [List.set_cons_zero, List.set_cons_succ, List.setIfInBounds_toArray, List.set_set, Value.cells] at H)) | (first | (refine val_run (by simp [bin, nilc, go_sem, hjz1]; (try simp (disch := omega) only [w_i64, w_u64, w_u32, w_u16, w_u8, w_i32]); rfl) ?_; refine onOk_in ?_) | (refine pu_run (fun w => by simp [bin, nilc, go_sem, hjz1]; (try simp (disch := omega) only [w_i64, w_u64, w_u32, w_u16, w_u8, w_i32]); rfl) ?_; refine puR_in ?_) | (refine tk_run (fun w => by simp [bin, nilc, go_sem, hjz1]; (try simp (disch := omega) only [w_i64, w_u64, w_u32, w_u16, w_u8, w_i32]); rfl) ?_; refine puR_in ?_)) | (refine tk_at_in ?_) | (refine ph_at ?_) | (refine ph_pure (Only.refl _ _) ?_) | (refine ph_k H (by with_reducible repeat (first | exact At.zero | apply At.succ)) ?_) | (refine tk_k (fun w => by simp [go_sem]) (by rfl) ?_) | (refine ph_pure H.only ?_) | (refine ph_pure (hpT.trans H.only (fun _ _ k => k)) ?_) | (refine tk_pld H (fun w => by simp [go_sem]) (by with_reducible repeat (first | exact At.zero | apply At.succ)) (by rfl) ?_) | (refine tk_pldB H (by with_reducible repeat (first | exact At.zero | apply At.succ)) (aggT (by kernel_rfl)) ?_) | (refine gd_true_in ?_) | (refine gd_false_in ?_) | (refine gd_true_in' ?_) | (refine gd_false_in' ?_))
      refine tk_pll (aggT (by kernel_rfl)) rfl hp2 ?_
      rw [hce2]
      refine same5_ret (hx1.pure hp03) hx2 fun w4 b hp4 hb => ?_
      have hHH := H
      replace H := H.pure hp4
      refine ph_pure hp4 ?_
      repeat (first | ((first | refine val_box H ?_ | refine val_alloc H (fun w => by simp [go_sem]; rfl) ?_); clear H; intro B w hB hp H; clear hB hp; try simp only [List.set_cons_zero, List.set_cons_succ, List.setIfInBounds_toArray, List.set_set, Value.cells] at H) | (first | refine val_ld H (fun w => by simp [go_sem]) (by with_reducible repeat (first | exact At.zero | apply At.succ)) (by rfl) ?_ | refine rd_ld H (fun w => by simp [go_sem]) (by with_reducible repeat (first | exact At.zero | apply At.succ)) (by rfl) ?_ | refine val_ldB H (by with_reducible repeat (first | exact At.zero | apply At.succ)) (aggT (by kernel_rfl)) ?_ | refine rd_ldB H (by with_reducible repeat (first | exact At.zero | apply At.succ)) (aggT (by kernel_rfl)) ?_) | ((first | refine unt_st H (by with_reducible repeat (first | exact At.zero | apply At.succ)) (fun w => by simp [go_sem]) (by rfl) (by rfl) ?_ | refine unt_stB H (by with_reducible repeat (first | exact At.zero | apply At.succ)) (aggT (by kernel_rfl)) (by rfl) (by rfl) ?_); clear H; intro w ho H; clear ho; try simp only [List.set_cons_zero, List.set_cons_succ, List.setIfInBounds_toArray, List.set_set, Value.cells] at H) | (refine val_at_bs ?_; ((refine val_run (by simp [go_sem]; (try simp (disch := omega) only [w_i64, w_u64, w_u32, w_u16, w_u8, w_i32]); rfl) ?_); refine onOk_bs H ?_; clear H; intro B w hB hp H; clear hB hp; try simp only [List.set_cons_zero, List.set_cons_succ, List.setIfInBounds_toArray, List.set_set, Value.cells] at H)) | (first | (refine val_run (by simp [bin, nilc, go_sem]; (try simp (disch := omega) only [w_i64, w_u64, w_u32, w_u16, w_u8, w_i32]); rfl) ?_; refine onOk_in ?_) | (refine pu_run (fun w => by simp [bin, nilc, go_sem]; (try simp (disch := omega) only [w_i64, w_u64, w_u32, w_u16, w_u8, w_i32]); rfl) ?_; refine puR_in ?_) | (refine tk_run (fun w => by simp [bin, nilc, go_sem]; (try simp (disch := omega) only [w_i64, w_u64, w_u32, w_u16, w_u8, w_i32]); rfl) ?_; refine puR_in ?_)) | (refine tk_at_in ?_) | (refine ph_at ?_) | (refine ph_pure (Only.refl _ _) ?_) | (refine ph_k H (by with_reducible repeat (first | exact At.zero | apply At.succ)) ?_) | (refine tk_k (fun w => by simp [go_sem]) (by rfl) ?_) | (refine ph_pure H.only ?_) | (refine ph_pure (hpT.trans H.only (fun _ _ k => k)) ?_) | (refine tk_pld H (fun w => by simp [go_sem]) (by with_reducible repeat (first | exact At.zero | apply At.succ)) (by rfl) ?_) | (refine tk_pldB H (by with_reducible repeat (first | exact At.zero | apply At.succ)) (aggT (by kernel_rfl)) ?_) | (refine gd_true_in ?_) | (refine gd_false_in ?_) | (refine gd_true_in' ?_) | (refine gd_false_in' ?_))
      refine gd_case (fun hc => ?_) (fun hc => ?_)
      · have hbf : xs[i].r ≠ zs[i - ys.length].r := fun e => by have := hb.2 e; rw [this] at hc; cases hc
        exact k _ false H.only ⟨fun h => (by cases h), fun h => absurd h.2 (st2 hbf)⟩
      · have hbt : xs[i].r = zs[i - ys.length].r := hb.1 (by simpa using hc)
        repeat (first | ((first | refine val_box H ?_ | refine val_alloc H (fun w => by simp [go_sem]; rfl) ?_); clear H; intro B w hB hp H; clear hB hp; try simp only [List.set_cons_zero, List.set_cons_succ, List.setIfInBounds_toArray, List.set_set, Value.cells] at H) | (first | refine val_ld H (fun w => by simp [go_sem]) (by with_reducible repeat (first | exact At.zero | apply At.succ)) (by rfl) ?_ | refine rd_ld H (fun w => by simp [go_sem]) (by with_reducible repeat (first | exact At.zero | apply At.succ)) (by rfl) ?_ | refine val_ldB H (by with_reducible repeat (first | exact At.zero | apply At.succ)) (aggT (by kernel_rfl)) ?_ | refine rd_ldB H (by with_reducible repeat (first | exact At.zero | apply At.succ)) (aggT (by kernel_rfl)) ?_) | ((first | refine unt_st H (by with_reducible repeat (first | exact At.zero | apply At.succ)) (fun w => by simp [go_sem]) (by rfl) (by rfl) ?_ | refine unt_stB H (by with_reducible repeat (first | exact At.zero | apply At.succ)) (aggT (by kernel_rfl)) (by rfl) (by rfl) ?_); clear H; intro w ho H; clear ho; try simp only [List.set_cons_zero, List.set_cons_succ, List.setIfInBounds_toArray, List.set_set, Value.cells] at H) | (refine val_at_bs ?_; ((refine val_run (by simp [go_sem]; (try simp (disch := omega) only [w_i64, w_u64, w_u32, w_u16, w_u8, w_i32]); rfl) ?_); refine onOk_bs H ?_; clear H; intro B w hB hp H; clear hB hp; try simp only [List.set_cons_zero, List.set_cons_succ, List.setIfInBounds_toArray, List.set_set, Value.cells] at H)) | (first | (refine val_run (by simp [bin, nilc, go_sem]; (try simp (disch := omega) only [w_i64, w_u64, w_u32, w_u16, w_u8, w_i32]); rfl) ?_; refine onOk_in ?_) | (refine pu_run (fun w => by simp [bin, nilc, go_sem]; (try simp (disch := omega) only [w_i64, w_u64, w_u32, w_u16, w_u8, w_i32]); rfl) ?_; refine puR_in ?_) | (refine tk_run (fun w => by simp [bin, nilc, go_sem]; (try simp (disch := omega) only [w_i64, w_u64, w_u32, w_u16, w_u8, w_i32]); rfl) ?_; refine puR_in ?_)) | (refine tk_at_in ?_) | (refine ph_at ?_) | (refine ph_pure (Only.refl _ _) ?_) | (refine ph_k H (by with_reducible repeat (first | exact At.zero | apply At.succ)) ?_) | (refine tk_k (fun w => by simp [go_sem]) (by rfl) ?_) | (refine ph_pure H.only ?_) | (refine ph_pure (hpT.trans H.only (fun _ _ k => k)) ?_) | (refine tk_pld H (fun w => by simp [go_sem]) (by with_reducible repeat (first | exact At.zero | apply At.succ)) (by rfl) ?_) | (refine tk_pldB H (by with_reducible repeat (first | exact At.zero | apply At.succ)) (aggT (by kernel_rfl)) ?_) | (refine gd_true_in ?_) | (refine gd_false_in ?_) | (refine gd_true_in' ?_) | (refine gd_false_in' ?_))
        exact ⟨⟨i + 1, by omega, by simp, st1 hbt, H.drop (by simp)⟩, by simp [intOf]; omega⟩
  · have hie : i = xs.length := by omega
    subst hie
    rw [List.take_of_length_le (by omega)] at hpre
    exact k _ true H.only ⟨fun _ => ⟨by omega, hpre⟩, fun _ => rfl⟩
theorem recs_none (w : World) : Recs w none [] := ⟨Lies.nil _ _, by simp⟩
theorem alike_ret {wb : World} {xs ys : List RecAt} {a1 a2 : Option Addr} {c1 c2 : Nat} (h1 : Recs wb a1 xs) (h2 : Recs wb a2 ys) (l1 : xs.length ≤ 1099511627776) (l2 : ys.length ≤ 1099511627776)
    (k : ∀ w' b, Pure wb w' → (b = true ↔ rsOf xs = rsOf ys) → K (.bool b) w') : Ret Try.prog 39 #[.slice a1 xs.length c1, .slice a2 ys.length c2] wb K := by
  have H := Hp.start (fun _ => False) wb
  have e1 : (rsOf xs).length = xs.length := by simp [rsOf]
  have e2 : (rsOf ys).length = ys.length := by simp [rsOf]
  apply e39
  unfold c39
  repeat (first | ((first | refine val_box H ?_ | refine val_alloc H (fun w => by simp [go_sem]; rfl) ?_); clear H; intro B w hB hp H; clear hB hp; try simp only [List.set_cons_zero, List.set_cons_succ, List.setIfInBounds_toArray, List.set_set, Value.cells] at H) | (first | refine val_ld H (fun w => by simp [go_sem]) (by with_reducible repeat (first | exact At.zero | apply At.succ)) (by rfl) ?_ | refine rd_ld H (fun w => by simp [go_sem]) (by with_reducible repeat (first | exact At.zero | apply At.succ)) (by rfl) ?_ | refine val_ldB H (by with_reducible repeat (first | exact At.zero | apply At.succ)) (aggT (by kernel_rfl)) ?_ | refine rd_ldB H (by with_reducible repeat (first | exact At.zero | apply At.succ)) (aggT (by kernel_rfl)) ?_) | ((first | refine unt_st H (by with_reducible repeat (first | exact At.zero | apply At.succ)) (fun w => by simp [go_sem]) (by rfl) (by rfl) ?_ | refine unt_stB H (by with_reducible repeat (first | exact At.zero | apply At.succ)) (aggT (by kernel_rfl)) (by rfl) (by rfl) ?_); clear H; intro w ho H; clear ho; try simp only [List.set_cons_zero, List.set_cons_succ, List.setIfInBounds_toArray, List.set_set, Value.cells] at H) | (refine val_at_bs ?_; ((refine val_run (by simp [go_sem]; (try simp (disch := omega) only [w_i64, w_u64, w_u32, w_u16, w_u8, w_i32]); rfl) ?_); refine onOk_bs H ?_; clear H; intro B w hB hp H; clear hB hp; try simp only [List.set_cons_zero, List.set_cons_succ, List.setIfInBounds_toArray, List.set_set, Value.cells] at H)) | (first | (refine val_run (by simp [bin, nilc, go_sem]; (try simp (disch := omega) only [w_i64, w_u64, w_u32, w_u16, w_u8, w_i32]); rfl) ?_; refine onOk_in ?_) | (refine pu_run (fun w => by simp [bin, nilc, go_sem]; (try simp (disch := omega) only [w_i64, w_u64, w_u32, w_u16, w_u8, w_i32]); rfl) ?_; refine puR_in ?_) | (refine tk_run (fun w => by simp [bin, nilc, go_sem]; (try simp (disch := omega) only [w_i64, w_u64, w_u32, w_u16, w_u8, w_i32]); rfl) ?_; refine puR_in ?_)) | (refine tk_at_in ?_) | (refine ph_at ?_) | (refine ph_pure (Only.refl _ _) ?_) | (refine ph_k H (by with_reducible repeat (first | exact At.zero | apply At.succ)) ?_) | (refine tk_k (fun w => by simp [go_sem]) (by rfl) ?_) | (refine ph_pure H.only ?_) | (refine ph_pure (hpT.trans H.only (fun _ _ k => k)) ?_) | (refine tk_pld H (fun w => by simp [go_sem]) (by with_reducible repeat (first | exact At.zero | apply At.succ)) (by rfl) ?_) | (refine tk_pldB H (by with_reducible repeat (first | exact At.zero | apply At.succ)) (aggT (by kernel_rfl)) ?_) | (refine gd_true_in ?_) | (refine gd_false_in ?_) | (refine gd_true_in' ?_) | (refine gd_false_in' ?_))
  refine gd_case (fun hc => ?_) (fun hc => ?_)
  · have hle : xs.length = ys.length := by simp at hc; omega
    refine begins_ret h1 h2 (recs_none _) l1 l2 (by decide) fun w' b hp hb => ?_
    refine k w' b hp (hb.trans ⟨fun h => ?_, fun h => ?_⟩)
    · simp only [rsOf, List.map_nil, List.append_nil] at h
      exact h.2.eq_of_length (by simp [hle])
    · rw [h]
      exact ⟨by omega, by simp [rsOf]⟩
  · refine k wb false H.only ⟨fun h => (by cases h), fun h => ?_⟩
    have := congrArg List.length h
    rw [e1, e2] at this
    rw [this] at hc
    simp at hc
/-- keeps. -/
def bitsB (bits : Nat) (i : Nat) : Bool := bits / 2 ^ (i % 64) % 2 == 1
theorem keeps_ret {bits : Nat} (hb : bits < 18446744073709551616) (H : Hp S w0 w L) (k : ∀ B w', Hp S w0 w' (.blk B #[.int .u64 bits] 42 :: L) → K (.func (.func 91) #[] #[.pointer (some ⟨B, 0, none⟩)]) w') : Ret Try.prog 45 #[.int .u64 bits] w K := by
  apply e45
  unfold c45
  repeat (first | ((first | refine val_box H ?_ | refine val_alloc H (fun w => by simp [go_sem]; rfl) ?_); clear H; intro B w hB hp H; clear hB hp; try simp only [List.set_cons_zero, List.set_cons_succ, List.setIfInBounds_toArray, List.set_set, Value.cells] at H) | (first | refine val_ld H (fun w => by simp [go_sem]) (by with_reducible repeat (first | exact At.zero | apply At.succ)) (by rfl) ?_ | refine rd_ld H (fun w => by simp [go_sem]) (by with_reducible repeat (first | exact At.zero | apply At.succ)) (by rfl) ?_ | refine val_ldB H (by with_reducible repeat (first | exact At.zero | apply At.succ)) (aggT (by kernel_rfl)) ?_ | refine rd_ldB H (by with_reducible repeat (first | exact At.zero | apply At.succ)) (aggT (by kernel_rfl)) ?_) | ((first | refine unt_st H (by with_reducible repeat (first | exact At.zero | apply At.succ)) (fun w => by simp [go_sem]) (by rfl) (by rfl) ?_ | refine unt_stB H (by with_reducible repeat (first | exact At.zero | apply At.succ)) (aggT (by kernel_rfl)) (by rfl) (by rfl) ?_); clear H; intro w ho H; clear ho; try simp only [List.set_cons_zero, List.set_cons_succ, List.setIfInBounds_toArray, List.set_set, Value.cells] at H) | (refine val_at_bs ?_; ((refine val_run (by simp [go_sem]; (try simp (disch := omega) only [w_i64, w_u64, w_u32, w_u16, w_u8, w_i32]); rfl) ?_); refine onOk_bs H ?_; clear H; intro B w hB hp H; clear hB hp; try simp only [List.set_cons_zero, List.set_cons_succ, List.setIfInBounds_toArray, List.set_set, Value.cells] at H)) | (first | (refine val_run (by simp [bin, nilc, go_sem]; (try simp (disch := omega) only [w_i64, w_u64, w_u32, w_u16, w_u8, w_i32]); rfl) ?_; refine onOk_in ?_) | (refine pu_run (fun w => by simp [bin, nilc, go_sem]; (try simp (disch := omega) only [w_i64, w_u64, w_u32, w_u16, w_u8, w_i32]); rfl) ?_; refine puR_in ?_) | (refine tk_run (fun w => by simp [bin, nilc, go_sem]; (try simp (disch := omega) only [w_i64, w_u64, w_u32, w_u16, w_u8, w_i32]); rfl) ?_; refine puR_in ?_)) | (refine tk_at_in ?_) | (refine ph_at ?_) | (refine ph_pure (Only.refl _ _) ?_) | (refine ph_k H (by with_reducible repeat (first | exact At.zero | apply At.succ)) ?_) | (refine tk_k (fun w => by simp [go_sem]) (by rfl) ?_) | (refine ph_pure H.only ?_) | (refine ph_pure (hpT.trans H.only (fun _ _ k => k)) ?_) | (refine tk_pld H (fun w => by simp [go_sem]) (by with_reducible repeat (first | exact At.zero | apply At.succ)) (by rfl) ?_) | (refine tk_pldB H (by with_reducible repeat (first | exact At.zero | apply At.succ)) (aggT (by kernel_rfl)) ?_) | (refine gd_true_in ?_) | (refine gd_false_in ?_) | (refine gd_true_in' ?_) | (refine gd_false_in' ?_))
  exact k _ _ H
end
end Go.Proofs.Ytchmcjimnliodaa
end
section
set_option linter.unusedSimpArgs false
set_option linter.unusedVariables false
/- Logs of the code and logs in plain Lean. No program in sight, but names. -/
namespace Go.Proofs.Ytchmcjimnliodaa

def Lg.at_ (half t : Nat) (a s b : List Rec) : Lg := ⟨half, t, ch a s b, chainSum 0 (logR a s b)⟩
theorem made_at (half t : Nat) (rs : List Rec) : Lg.made half t rs = Lg.at_ half t rs [] [] := by
  unfold Lg.made Lg.at_ ch logR
  simp
theorem next_at (half t : Nat) (a s b : List Rec) (r : Rec) : (Lg.at_ half t a s b).next r = Lg.at_ half t a s (b ++ [r]) := by
  have e1 := ch_snoc a s b r
  have e2 : chainSum 0 (logR a s (b ++ [r])) = frameSum (chainSum 0 (logR a s b)) r := by
    have e : logR a s (b ++ [r]) = logR a s b ++ [r] := by simp [logR]
    rw [e, chainSum_append]
    simp [chainSum]
  unfold Lg.next Lg.at_
  simp only
  rw [e1, e2]
theorem sync_at (half t : Nat) (a s b : List Rec) : Lg.at_ half t a s b = Lg.at_ half t a (s ++ b) [] := by
  unfold Lg.at_
  rw [ch_sync]
  have e : logR a (s ++ b) [] = logR a s b := by simp [logR]
  rw [e]
theorem put_good {d : Dk} {half t : Nat} {a s b : List Rec} (h : Good d half t a s b) {r : Rec} (hr : r.d.length ≤ 1024) (hk : r.k ≠ 255) (room : (ch a s b).length + fsize r ≤ 55 * (d.l.length / 2)) :
    Good (d.put (Lg.at_ half t a s b) r) half t a s (b ++ [r]) := by
  have e : (ch a s (b ++ [r])).length = (ch a s b).length + fsize r := by rw [ch_snoc, List.length_append, fsize_frame]
  have := h.append hr hk (by rw [e]; exact room)
  exact this
theorem made_good {d : Dk} (hok : d.ok) (hd : d.down = false) (n4 : 4 ≤ d.l.length) {half t : Nat} {a : List Rec} (h1 : half ≤ 1) (t0 : 0 < t) (t1 : t < 9223372036854775808) (small : ∀ r ∈ a, r.d.length ≤ 1024 ∧ r.k ≠ 255)
    (room : (chain 0 (a ++ [sealR])).length ≤ 55 * (d.l.length / 2)) (old : ∀ x ∈ d.now, turnOf x < t) : Good (d.made half t a) half t a [] [] := by
  have e : chain 0 (a ++ [sealR]) = ch a [] [] := by unfold ch logR; simp
  have := Good.fresh hok n4 (a := a) h1 t0 t1 small (by rw [← e]; exact room) old
  unfold Dk.made
  rw [e, hd]
  exact this
theorem made_len (d : Dk) (half t : Nat) (a : List Rec) : (d.made half t a).l.length = d.l.length := by
  unfold Dk.made
  simp only [over_length]
  exact puts_length _ _
theorem made_down (d : Dk) (half t : Nat) (a : List Rec) : (d.made half t a).down = d.down := rfl
theorem made_ws (d : Dk) (half t : Nat) (a : List Rec) : (d.made half t a).ws = [] := rfl
/-- What Open finds, and makes, of a disk whose sectors are so. -/
theorem open_good {d : Dk} {half t lo : Nat} {a s b : List Rec} (hok : d.ok) (hd : d.down = false) (h1 : half ≤ 1) (n4 : 4 ≤ d.l.length) (t0 : 0 < t) (t1 : t + 1 < 9223372036854775808) (small : ∀ r ∈ a ++ (s ++ b), r.d.length ≤ 1024 ∧ r.k ≠ 255)
    (room : (ch a s b).length ≤ 55 * (d.l.length / 2)) (hlo : (ch a s []).length ≤ lo) (hlo2 : lo ≤ (ch a s b).length) (hl : ∀ j x, d.now[j]? = some x → At5 t lo (ch a s b) (half * (d.l.length / 2)) (d.l.length / 2) j x) :
    ∃ k, k ≤ b.length ∧ (lo = (ch a s b).length → k = b.length) ∧ pickOf d.now = some (half, ⟨t, a ++ (s ++ b.take k), true⟩) ∧ greatestOf d.now = t ∧ (chain 0 ((a ++ (s ++ b.take k)) ++ [sealR])).length ≤ 55 * (d.l.length / 2) ∧
      Good (d.made (1 - half) (t + 1) (a ++ (s ++ b.take k))) (1 - half) (t + 1) (a ++ (s ++ b.take k)) [] [] := by
  have hnl : d.now.length = d.l.length := puts_length _ _
  have hpos : 0 < lo := by
    have : 0 < (ch a s []).length := by rw [ch_len]; omega
    omega
  rw [← hnl] at hl room n4
  obtain ⟨k, k1, k2, k3⟩ := pick_at5 h1 n4 t0 (by omega) small room hlo hlo2 hl
  have hg := greatest_at5 h1 n4 (by omega) hpos hl
  have hfit := ch_again a s b k
  have e : chain 0 ((a ++ (s ++ b.take k)) ++ [sealR]) = ch (a ++ (s ++ b.take k)) [] [] := by unfold ch logR; simp
  rw [hnl] at room n4
  refine ⟨k, k1, k3, k2, hg, by rw [e]; omega, made_good hok hd n4 (by omega) (by omega) t1 (fun r hr => small r ?_) (by rw [e]; omega) (fun x hx => ?_)⟩
  · rcases List.mem_append.1 hr with hr | hr
    · exact List.mem_append_left _ hr
    · refine List.mem_append_right _ ?_
      rcases List.mem_append.1 hr with hr | hr
      · exact List.mem_append_left _ hr
      · exact List.mem_append_right _ (List.mem_of_mem_take hr)
  · have := greatest_le d.now x hx
    omega
/-- A log as it stands. -/
theorem open_now {d : Dk} {half t : Nat} {a s b : List Rec} (h : Good d half t a s b) (hd : d.down = false) (t1 : t + 1 < 9223372036854775808) :
    pickOf d.now = some (half, ⟨t, a ++ (s ++ b), true⟩) ∧ greatestOf d.now = t ∧ (chain 0 ((a ++ (s ++ b)) ++ [sealR])).length ≤ 55 * (d.l.length / 2) ∧ Good (d.made (1 - half) (t + 1) (a ++ (s ++ b))) (1 - half) (t + 1) (a ++ (s ++ b)) [] [] := by
  have hle : (ch a s []).length ≤ (ch a s b).length := by rw [ch_split a s b]; simp
  obtain ⟨k, k1, k2, k3, k4, k5, k6⟩ := open_good h.ok hd h.h1 h.n4 h.t0 t1 h.small h.room hle (Nat.le_refl _) h.now
  have := k2 rfl
  rw [List.take_of_length_le (by omega)] at k3 k5 k6
  exact ⟨k3, k4, k5, k6⟩
/-- Behind a crash. -/
theorem open_crash {d : Dk} {half t : Nat} {a s b : List Rec} (h : Good d half t a s b) (keep : Nat → Bool) (t1 : t + 1 < 9223372036854775808) :
    ∃ k, k ≤ b.length ∧ pickOf ({ d.settle keep with down := false } : Dk).now = some (half, ⟨t, a ++ (s ++ b.take k), true⟩) ∧ greatestOf ({ d.settle keep with down := false } : Dk).now = t ∧ (chain 0 ((a ++ (s ++ b.take k)) ++ [sealR])).length ≤ 55 * (d.l.length / 2) ∧
      Good (({ d.settle keep with down := false } : Dk).made (1 - half) (t + 1) (a ++ (s ++ b.take k))) (1 - half) (t + 1) (a ++ (s ++ b.take k)) [] [] := by
  have hle : (ch a s []).length ≤ (ch a s b).length := by rw [ch_split a s b]; simp
  have hsl : (d.settle keep).l.length = d.l.length := puts_length _ _
  have hok' := h.ok.settle keep
  obtain ⟨k, k1, k2, k3, k4, k5, k6⟩ := open_good (d := { d.settle keep with down := false }) (lo := (ch a s []).length) ⟨hok'.sec, hok'.ws, hok'.len⟩ rfl h.h1 (by simp only [hsl]; exact h.n4) h.t0 t1 h.small (by simp only [hsl]; exact h.room) (Nat.le_refl _) hle (by simp only [hsl]; exact h.kept keep)
  simp only [hsl] at k5
  exact ⟨k, k1, k3, k4, k5, k6⟩
/-- Behind a crash that keeps nothing. -/
theorem open_lost {d : Dk} {half t : Nat} {a s b : List Rec} (h : Good d half t a s b) (t1 : t + 1 < 9223372036854775808) :
    pickOf ({ d.settle (fun _ => false) with down := false } : Dk).now = some (half, ⟨t, a ++ s, true⟩) ∧ greatestOf ({ d.settle (fun _ => false) with down := false } : Dk).now = t ∧ (chain 0 ((a ++ s) ++ [sealR])).length ≤ 55 * (d.l.length / 2) ∧
      Good (({ d.settle (fun _ => false) with down := false } : Dk).made (1 - half) (t + 1) (a ++ s)) (1 - half) (t + 1) (a ++ s) [] [] := by
  have hle : (ch a s []).length ≤ (ch a s b).length := by rw [ch_split a s b]; simp
  have hset : (d.settle fun _ => false).l = d.l := by unfold Dk.settle; simp only [kept_none]; rfl
  have hsl : (d.settle fun _ => false).l.length = d.l.length := by rw [hset]
  have hok' := h.ok.settle fun _ => false
  have hroom := h.room
  obtain ⟨k, k1, k2, k3, k4, k5, k6⟩ := open_good (d := { d.settle (fun _ => false) with down := false }) (lo := (ch a s []).length) (b := []) ⟨hok'.sec, hok'.ws, hok'.len⟩ rfl h.h1 (by simp only [hsl]; exact h.n4) h.t0 t1 (fun r hr => h.small r (by
    rw [List.append_nil] at hr
    rcases List.mem_append.1 hr with hr | hr
    · exact List.mem_append_left _ hr
    · exact List.mem_append_right _ (List.mem_append_left _ hr))) (by simp only [hsl]; omega) (Nat.le_refl _) (Nat.le_refl _) (by
      simp only [hsl]
      show ∀ j x, (d.settle fun _ => false).l[j]? = some x → _
      rw [hset]
      exact h.l)
  simp only [hsl, List.take_nil, List.append_nil] at k3 k5 k6
  exact ⟨k3, k4, k5, k6⟩
end Go.Proofs.Ytchmcjimnliodaa
end
section
set_option linter.unusedSimpArgs false
set_option linter.unusedVariables false
/- '[]byte("a")' of a constant, in a walk. No program in sight. -/
namespace Go.Proofs.Ytchmcjimnliodaa
open Go Go.RowKit

/-- A constant's row, that has its mark. -/
def mkI (B : Nat) (C : Array Value) (e : TypeId) : It := .gen (fun k => k = B) (fun w => w.heap[B]? = some (.cells C e (C.size, C.size + 1))) (fun _ _ h _ k => (h B rfl).trans k)
section
variable {P : Program} {S : Nat → Prop} {w0 w : World} {L : List It} {j B : Nat} {C : Array Value} {e t : TypeId}
theorem mkI_lies (h : (mkI B C e).ok w) : Lies w (some ⟨B, 0, none⟩) C.toList := by
  refine Lies.of_addr fun j u hj => ?_
  rw [cell_of_row w B (0 + j) C e (C.size, C.size + 1) h.1, Nat.zero_add]
  simpa using hj
theorem freeze_heap (w : World) (B k : Nat) : (w.freeze ⟨B, k, none⟩ 1).os = w.os ∧ (w.freeze ⟨B, k, none⟩ 1).tape = w.tape ∧ (w.freeze ⟨B, k, none⟩ 1).output = w.output ∧ (w.freeze ⟨B, k, none⟩ 1).heap.size = w.heap.size ∧
    (∀ q, q ≠ B → (w.freeze ⟨B, k, none⟩ 1).heap[q]? = w.heap[q]?) ∧ ∀ C e, w.heap[B]? = some (.cells C e (0, 0)) → (w.freeze ⟨B, k, none⟩ 1).heap[B]? = some (.cells C e (k, k + 1)) := by
  unfold World.freeze
  rw [if_neg (by decide)]
  refine ⟨rfl, rfl, rfl, ?_, fun q hq => ?_, fun C e h => ?_⟩
  · exact Array.size_modify
  · show (w.heap.modify B _)[q]? = _
    rw [Array.getElem?_modify, if_neg (fun h => hq h.symm)]
  · show (w.heap.modify B _)[B]? = _
    rw [Array.getElem?_modify, if_pos rfl, h]
    rfl
theorem val_cb {K : Value → World → Prop} (H : Hp S w0 w L) (hk : At L j (.blk B C e)) (ht : P.underlying t = some (.slice e)) (he : P.underlying e = some (.int .u8)) {n c : Nat}
    (k : ∀ w1, Hp S w0 w1 (L.set j (mkI B C e)) → K (.slice (some ⟨B, 0, none⟩) n c) w1) : val P (convert t t (.slice (some ⟨B, 0, none⟩) n c)) w K := by
  have hb : Blk w B C e := H.get hk.get
  have hsh : w.shape? B = some (e, C.size) := by
    unfold World.shape?
    rw [show w.heap[B]? = some (.cells C e (0, 0)) from hb]
  obtain ⟨f1, f2, f3, f4, f5, f6⟩ := freeze_heap w B C.size
  have hr : (convert t t (.slice (some ⟨B, 0, none⟩) n c)).run P w = .ok (.slice (some ⟨B, 0, none⟩) n c) (w.freeze ⟨B, C.size, none⟩ 1) := by
    simp [convert, run_underlying ht, run_underlying he, markStringish, hsh]
  have ho : Only (fun x => x = B) w (w.freeze ⟨B, C.size, none⟩ 1) := ⟨f1, f2, f3, by omega, fun q _ hq => f5 q hq⟩
  refine val_ok hr (k _ (H.upd hk.get ho (i' := mkI B C e) ⟨f6 C e hb, fun q hq => ?_⟩ (fun q hq => .inl hq)))
  obtain rfl : q = B := hq
  have := hb.lt
  omega
end
end Go.Proofs.Ytchmcjimnliodaa
end
section
set_option linter.unusedSimpArgs false
set_option linter.unusedVariables false
/- Logs that are well, step by step; the chapter's example. -/
namespace Go.Proofs.Ytchmcjimnliodaa
open Go Go.RowKit
set_option maxRecDepth 10000
set_option linter.unusedSimpArgs false
set_option linter.unusedVariables false

section
variable {S : Nat → Prop} {w0 w : World} {L : List It} {D BL : Nat} {ra rb rt : Option Nat} {d : Dk} {K : Value → World → Prop} {half t : Nat} {a s b : List Rec}
theorem clear_old {I M : List It} (H : Hp (fun _ => False) w0 w (I ++ M)) {a : Option Addr} {xs : List Value} (hl : Lies w0 a xs) : Clear (fpL I) a xs := fun hx => H.offL hl hx
theorem clear_item {I M : List It} (H : Hp S w0 w (I ++ M)) {i : It} (hi : i ∈ M) {a : Option Addr} {xs : List Value} (hq : ∀ q, ablk a = some q → i.fp q) : Clear (fpL I) a xs := by
  rintro _ q hq' ⟨x, hx, hxq⟩
  exact (List.pairwise_append.1 H.apart).2.2 x hx i hi q hxq (hq q hq')
theorem ch_bound (h : Good d half t a s b) : (ch a s b).length ≤ 112640 := by
  have h1 := h.room
  have h2 := h.ok.len
  omega
theorem wappend (H : Hp S w0 w (lgI BL rt D (Lg.at_ half t a s b) :: dkI D ra rb d :: L)) (G : Good d half t a s b) (hd : d.down = false) (hws : d.ws.length + 4096 ≤ 1099511627776)
    {r : Rec} {ar : Option Addr} {n cap : Nat} (hn : r.d.length = n) (hnm : n ≤ maxLen) (hl : Lies w ar (ub r.d)) (ha : Clear (fpL [lgI BL rt D (Lg.at_ half t a s b), dkI D ra rb d]) ar (ub r.d))
    (k1 : ∀ w', r.k = 255 → Hp S w0 w' (lgI BL rt D (Lg.at_ half t a s b) :: dkI D ra rb d :: L) → K (.int .i64 1) w')
    (k15 : ∀ w', r.k ≠ 255 → 1024 < n → Hp S w0 w' (lgI BL rt D (Lg.at_ half t a s b) :: dkI D ra rb d :: L) → K (.int .i64 15) w')
    (k6 : ∀ w', r.k ≠ 255 → n ≤ 1024 → 55 * (d.l.length / 2) < (ch a s b).length + fsize r → Hp S w0 w' (lgI BL rt D (Lg.at_ half t a s b) :: dkI D ra rb d :: L) → K (.int .i64 6) w')
    (k : ∀ rt' rb' d' w', r.k ≠ 255 → n ≤ 1024 → (ch a s b).length + fsize r ≤ 55 * (d.l.length / 2) → Good d' half t a s (b ++ [r]) → d'.down = false → d'.l.length = d.l.length → d'.ws.length ≤ d.ws.length + 4096 → Hp S w0 w' (lgI BL rt' D (Lg.at_ half t a s (b ++ [r])) :: dkI D ra rb' d' :: L) → K (.int .i64 0) w') :
    Ret Try.prog 31 #[.pointer (some ⟨BL, 0, none⟩), .agg #[.int .u8 r.k.toNat, .slice ar n cap]] w K := by
  have hcb := ch_bound G
  have ht1 := G.t1
  refine append_ret (H.many (I := [_, _]) (M := L)) G.ok hd (show t < _ by omega) G.h1 hws (show (ch a s b).length ≤ _ by omega) hn hnm hl ha (fun w' h1 h2 => k1 w' h1 (H.frameL (I := [_, _]) h2)) (fun w' h1 h2 h3 => k15 w' h1 h2 (H.frameL (I := [_, _]) h3))
    (fun w' h1 h2 h3 h4 => k6 w' h1 h2 h3 (H.frameL (I := [_, _]) h4)) (fun rt' rb' w' h1 h2 h3 h4 => ?_)
  have h5 := H.frameL (I := [_, _]) h4
  rw [next_at] at h5
  exact k rt' rb' _ w' h1 h2 h3 (put_good G (by omega) h1 h3) hd rfl (put_len d _ r G.ok.len (by rw [fsize_frame]; exact h3)) h5
theorem wsync (H : Hp S w0 w (lgI BL rt D (Lg.at_ half t a s b) :: dkI D ra rb d :: L)) (G : Good d half t a s b) (hd : d.down = false) (hws : d.ws.length ≤ 1099511627776)
    (k : ∀ d' w', Good d' half t a (s ++ b) [] → d'.down = false → d'.l.length = d.l.length → d'.ws = [] → Hp S w0 w' (lgI BL rt D (Lg.at_ half t a (s ++ b) []) :: dkI D ra none d' :: L) → K (.int .i64 0) w') : Ret Try.prog 32 #[.pointer (some ⟨BL, 0, none⟩)] w K := by
  refine sync_ret H G.ok hd hws fun w' h => ?_
  rw [sync_at] at h
  exact k _ w' G.sync hd (puts_length _ _) rfl h
theorem wformat {n : Nat} (H : Hp S w0 w (dkI D ra rb (Dk.blank n) :: L)) (h4 : 4 ≤ n) (hN : n ≤ 4096)
    (k : ∀ BL rt d' w', Good d' 0 1 [] [] [] → d'.down = false → d'.l.length = n → d'.ws = [] → Hp S w0 w' (lgI BL rt D (Lg.at_ 0 1 [] [] []) :: dkI D ra none d' :: L) → K (.tuple #[.pointer (some ⟨BL, 0, none⟩), .int .i64 0]) w') : Ret Try.prog 30 #[.pointer (some ⟨D, 0, none⟩)] w K := by
  have hz : ∀ x ∈ (Dk.blank n).now, turnOf x = 0 := by
    intro x hx
    have : x = zeros := (List.mem_replicate.1 (show x ∈ List.replicate n zeros from hx)).2
    rw [this]
    decide
  have hG : greatestOf (Dk.blank n).now = 0 := by
    rcases (foldl_max (Dk.blank n).now turnOf 0).1 with h | ⟨x, hx, h⟩
    · exact h
    · exact h.trans (hz x hx)
  have hl : (Dk.blank n).l.length = n := by simp [Dk.blank]
  refine format_ret (H.ok _ (List.mem_cons_self ..)) (blank_ok hN) rfl (by rw [hl]; exact h4) (by simp [Dk.blank]) (by rw [hG]; decide) fun BL rt w' h => ?_
  rw [hG, made_at] at h
  have h2 := H.frame0 h
  refine k BL rt _ w' (made_good (blank_ok hN) rfl (by rw [hl]; exact h4) (by decide) (by decide) (by decide) (by simp) ?_ (fun x hx => by rw [hz x hx]; decide)) rfl (by rw [made_len, hl]) rfl h2
  have h7 : (chain 0 ([] ++ [sealR])).length = 7 := by
    rw [chain_len]
    simp [fsize, sealR, num_small]
  rw [h7, hl]
  omega
theorem recs_of {xs : List RecAt} {a : Option Addr} {n cap : Nat} (H : Hp S w0 w L) (h1 : It.row 29 2 a n cap (recsC xs) ∈ L) (h2 : rowsI xs ∈ L) : Recs w a xs :=
  ⟨(show Row w 29 2 a n cap (recsC xs) from H.ok _ h1).lies, fun x hx => Row.lies ((show (rowsI xs).ok w from H.ok _ h2) (x.a, x.r.d.length, x.cap, ub x.r.d) (List.mem_map_of_mem hx))⟩
theorem wopen (H : Hp S w0 w (dkI D ra rb d :: L)) (hok : d.ok) (hd : d.down = false) (h4 : 4 ≤ d.l.length) (hws : d.ws.length ≤ 549755813888) {wh : Nat} {rs : List Rec} (hp : pickOf d.now = some (wh, ⟨t, rs, true⟩)) (hg : greatestOf d.now = t) (ht : t + 1 < 9223372036854775808)
    (hfit : (chain 0 (rs ++ [sealR])).length ≤ 55 * (d.l.length / 2)) (hG : Good (d.made (1 - wh) (t + 1) rs) (1 - wh) (t + 1) rs [] [])
    (k : ∀ BL rt xs a cap d' w', rsOf xs = rs → Good d' (1 - wh) (t + 1) rs [] [] → d'.down = false → d'.l.length = d.l.length → d'.ws = [] →
      Hp S w0 w' (lgI BL rt D (Lg.at_ (1 - wh) (t + 1) rs [] []) :: dkI D ra none d' :: .row 29 2 a xs.length cap (recsC xs) :: rowsI xs :: L) → K (.tuple #[.pointer (some ⟨BL, 0, none⟩), .slice a xs.length cap, .int .i64 0]) w') : Ret Try.prog 34 #[.pointer (some ⟨D, 0, none⟩)] w K := by
  refine open_ret (H.ok _ (List.mem_cons_self ..)) hok hd h4 hws (fun w' h _ => by rw [hp] at h; cases h) (fun w' p _ h _ => by rw [hg] at h; omega) (fun w' p h _ h2 _ => ?_) (fun p BL rt w' xs a cap h h1 h2 h3 h4' => ?_)
  · rw [hp] at h
    injection h with h
    subst h
    simp only at h2
    omega
  · rw [hp] at h
    injection h with h
    subst h
    simp only at h2 h3 h4'
    rw [hg, made_at] at h4'
    exact k BL rt xs a cap _ w' h2 hG hd (made_len _ _ _ _) rfl (H.frame0 h4')
set_option maxHeartbeats 2000000 in
theorem lives5 {wb : World} {K : Value → World → Prop} (k : ∀ w', Pure wb w' → K (.bool true) w') : Ret Try.prog 28 #[] wb K := by
  have H := Hp.start (fun _ => False) wb
  apply e28
  unfold c28
  refine dnew_ret (n := 16) H (by decide) (by decide) fun D ra rb w1 H => ?_
  repeat (first | ((first | refine val_box H ?_ | refine val_alloc H (fun w => by simp [go_sem]; rfl) ?_); clear H; intro B w hB hp H; clear hB hp; try simp only [List.set_cons_zero, List.set_cons_succ, List.setIfInBounds_toArray, List.set_set, Value.cells] at H) | (first | refine val_ld H (fun w => by simp [go_sem]) (by with_reducible repeat (first | exact At.zero | apply At.succ)) (by rfl) ?_ | refine rd_ld H (fun w => by simp [go_sem]) (by with_reducible repeat (first | exact At.zero | apply At.succ)) (by rfl) ?_ | refine val_ldB H (by with_reducible repeat (first | exact At.zero | apply At.succ)) (aggT (by kernel_rfl)) ?_ | refine rd_ldB H (by with_reducible repeat (first | exact At.zero | apply At.succ)) (aggT (by kernel_rfl)) ?_) | ((first | refine unt_st H (by with_reducible repeat (first | exact At.zero | apply At.succ)) (fun w => by simp [go_sem]) (by rfl) (by rfl) ?_ | refine unt_stB H (by with_reducible repeat (first | exact At.zero | apply At.succ)) (aggT (by kernel_rfl)) (by rfl) (by rfl) ?_); clear H; intro w ho H; clear ho; try simp only [List.set_cons_zero, List.set_cons_succ, List.setIfInBounds_toArray, List.set_set, Value.cells] at H) | (refine val_at_bs ?_; ((refine val_run (by simp [go_sem]; (try simp (disch := omega) only [w_i64, w_u64, w_u32, w_u16, w_u8, w_i32]); rfl) ?_); refine onOk_bs H ?_; clear H; intro B w hB hp H; clear hB hp; try simp only [List.set_cons_zero, List.set_cons_succ, List.setIfInBounds_toArray, List.set_set, Value.cells] at H)) | (first | (refine val_run (by simp [bin, nilc, go_sem]; (try simp (disch := omega) only [w_i64, w_u64, w_u32, w_u16, w_u8, w_i32]); rfl) ?_; refine onOk_in ?_) | (refine pu_run (fun w => by simp [bin, nilc, go_sem]; (try simp (disch := omega) only [w_i64, w_u64, w_u32, w_u16, w_u8, w_i32]); rfl) ?_; refine puR_in ?_) | (refine tk_run (fun w => by simp [bin, nilc, go_sem]; (try simp (disch := omega) only [w_i64, w_u64, w_u32, w_u16, w_u8, w_i32]); rfl) ?_; refine puR_in ?_)) | (refine tk_at_in ?_) | (refine ph_at ?_) | (refine ph_pure (Only.refl _ _) ?_) | (refine ph_k H (by with_reducible repeat (first | exact At.zero | apply At.succ)) ?_) | (refine tk_k (fun w => by simp [go_sem]) (by rfl) ?_) | (refine ph_pure H.only ?_) | (refine ph_pure (hpT.trans H.only (fun _ _ k => k)) ?_) | (refine tk_pld H (fun w => by simp [go_sem]) (by with_reducible repeat (first | exact At.zero | apply At.succ)) (by rfl) ?_) | (refine tk_pldB H (by with_reducible repeat (first | exact At.zero | apply At.succ)) (aggT (by kernel_rfl)) ?_) | (refine gd_true_in ?_) | (refine gd_false_in ?_) | (refine gd_true_in' ?_) | (refine gd_false_in' ?_))
  refine wformat H (by decide) (by decide) fun BL rt d1 w2 G1 hd1 hl1 hw1 H => ?_
  repeat (first | ((first | refine val_box H ?_ | refine val_alloc H (fun w => by simp [go_sem]; rfl) ?_); clear H; intro B w hB hp H; clear hB hp; try simp only [List.set_cons_zero, List.set_cons_succ, List.setIfInBounds_toArray, List.set_set, Value.cells] at H) | (first | refine val_ld H (fun w => by simp [go_sem]) (by with_reducible repeat (first | exact At.zero | apply At.succ)) (by rfl) ?_ | refine rd_ld H (fun w => by simp [go_sem]) (by with_reducible repeat (first | exact At.zero | apply At.succ)) (by rfl) ?_ | refine val_ldB H (by with_reducible repeat (first | exact At.zero | apply At.succ)) (aggT (by kernel_rfl)) ?_ | refine rd_ldB H (by with_reducible repeat (first | exact At.zero | apply At.succ)) (aggT (by kernel_rfl)) ?_) | ((first | refine unt_st H (by with_reducible repeat (first | exact At.zero | apply At.succ)) (fun w => by simp [go_sem]) (by rfl) (by rfl) ?_ | refine unt_stB H (by with_reducible repeat (first | exact At.zero | apply At.succ)) (aggT (by kernel_rfl)) (by rfl) (by rfl) ?_); clear H; intro w ho H; clear ho; try simp only [List.set_cons_zero, List.set_cons_succ, List.setIfInBounds_toArray, List.set_set, Value.cells] at H) | (refine val_at_bs ?_; ((refine val_run (by simp [go_sem]; (try simp (disch := omega) only [w_i64, w_u64, w_u32, w_u16, w_u8, w_i32]); rfl) ?_); refine onOk_bs H ?_; clear H; intro B w hB hp H; clear hB hp; try simp only [List.set_cons_zero, List.set_cons_succ, List.setIfInBounds_toArray, List.set_set, Value.cells] at H)) | (first | (refine val_run (by simp [bin, nilc, go_sem]; (try simp (disch := omega) only [w_i64, w_u64, w_u32, w_u16, w_u8, w_i32]); rfl) ?_; refine onOk_in ?_) | (refine pu_run (fun w => by simp [bin, nilc, go_sem]; (try simp (disch := omega) only [w_i64, w_u64, w_u32, w_u16, w_u8, w_i32]); rfl) ?_; refine puR_in ?_) | (refine tk_run (fun w => by simp [bin, nilc, go_sem]; (try simp (disch := omega) only [w_i64, w_u64, w_u32, w_u16, w_u8, w_i32]); rfl) ?_; refine puR_in ?_)) | (refine tk_at_in ?_) | (refine ph_at ?_) | (refine ph_pure (Only.refl _ _) ?_) | (refine ph_k H (by with_reducible repeat (first | exact At.zero | apply At.succ)) ?_) | (refine tk_k (fun w => by simp [go_sem]) (by rfl) ?_) | (refine ph_pure H.only ?_) | (refine ph_pure (hpT.trans H.only (fun _ _ k => k)) ?_) | (refine tk_pld H (fun w => by simp [go_sem]) (by with_reducible repeat (first | exact At.zero | apply At.succ)) (by rfl) ?_) | (refine tk_pldB H (by with_reducible repeat (first | exact At.zero | apply At.succ)) (aggT (by kernel_rfl)) ?_) | (refine gd_true_in ?_) | (refine gd_false_in ?_) | (refine gd_true_in' ?_) | (refine gd_false_in' ?_))
  refine val_cb H (j := 0) (by with_reducible repeat (first | exact At.zero | apply At.succ)) Try.underlying24 Try.underlying5 fun w3 H => ?_
  simp only [List.set_cons_zero, List.set_cons_succ, List.setIfInBounds_toArray, List.set_set, Value.cells] at H
  repeat (first | ((first | refine val_box H ?_ | refine val_alloc H (fun w => by simp [go_sem]; rfl) ?_); clear H; intro B w hB hp H; clear hB hp; try simp only [List.set_cons_zero, List.set_cons_succ, List.setIfInBounds_toArray, List.set_set, Value.cells] at H) | (first | refine val_ld H (fun w => by simp [go_sem]) (by with_reducible repeat (first | exact At.zero | apply At.succ)) (by rfl) ?_ | refine rd_ld H (fun w => by simp [go_sem]) (by with_reducible repeat (first | exact At.zero | apply At.succ)) (by rfl) ?_ | refine val_ldB H (by with_reducible repeat (first | exact At.zero | apply At.succ)) (aggT (by kernel_rfl)) ?_ | refine rd_ldB H (by with_reducible repeat (first | exact At.zero | apply At.succ)) (aggT (by kernel_rfl)) ?_) | ((first | refine unt_st H (by with_reducible repeat (first | exact At.zero | apply At.succ)) (fun w => by simp [go_sem]) (by rfl) (by rfl) ?_ | refine unt_stB H (by with_reducible repeat (first | exact At.zero | apply At.succ)) (aggT (by kernel_rfl)) (by rfl) (by rfl) ?_); clear H; intro w ho H; clear ho; try simp only [List.set_cons_zero, List.set_cons_succ, List.setIfInBounds_toArray, List.set_set, Value.cells] at H) | (refine val_at_bs ?_; ((refine val_run (by simp [go_sem]; (try simp (disch := omega) only [w_i64, w_u64, w_u32, w_u16, w_u8, w_i32]); rfl) ?_); refine onOk_bs H ?_; clear H; intro B w hB hp H; clear hB hp; try simp only [List.set_cons_zero, List.set_cons_succ, List.setIfInBounds_toArray, List.set_set, Value.cells] at H)) | (first | (refine val_run (by simp [bin, nilc, go_sem]; (try simp (disch := omega) only [w_i64, w_u64, w_u32, w_u16, w_u8, w_i32]); rfl) ?_; refine onOk_in ?_) | (refine pu_run (fun w => by simp [bin, nilc, go_sem]; (try simp (disch := omega) only [w_i64, w_u64, w_u32, w_u16, w_u8, w_i32]); rfl) ?_; refine puR_in ?_) | (refine tk_run (fun w => by simp [bin, nilc, go_sem]; (try simp (disch := omega) only [w_i64, w_u64, w_u32, w_u16, w_u8, w_i32]); rfl) ?_; refine puR_in ?_)) | (refine tk_at_in ?_) | (refine ph_at ?_) | (refine ph_pure (Only.refl _ _) ?_) | (refine ph_k H (by with_reducible repeat (first | exact At.zero | apply At.succ)) ?_) | (refine tk_k (fun w => by simp [go_sem]) (by rfl) ?_) | (refine ph_pure H.only ?_) | (refine ph_pure (hpT.trans H.only (fun _ _ k => k)) ?_) | (refine tk_pld H (fun w => by simp [go_sem]) (by with_reducible repeat (first | exact At.zero | apply At.succ)) (by rfl) ?_) | (refine tk_pldB H (by with_reducible repeat (first | exact At.zero | apply At.succ)) (aggT (by kernel_rfl)) ?_) | (refine gd_true_in ?_) | (refine gd_false_in ?_) | (refine gd_true_in' ?_) | (refine gd_false_in' ?_))
  (replace H := H.toFront (i := dkI D ra none d1) (by with_reducible repeat (first | exact At.zero | apply At.succ)); simp only [List.eraseIdx_cons_zero, List.eraseIdx_cons_succ] at H)
  (replace H := H.toFront (i := lgI BL rt D (Lg.at_ 0 1 [] [] [])) (by with_reducible repeat (first | exact At.zero | apply At.succ)); simp only [List.eraseIdx_cons_zero, List.eraseIdx_cons_succ] at H)
  have hl3 : Lies w3 (some ⟨B, 0, none⟩) (ub [97]) := mkI_lies (H.ok (mkI B #[.int .u8 97] 5) (At.mem (by with_reducible repeat (first | exact At.zero | apply At.succ))))
  refine wappend (r := ⟨1, [97]⟩) (n := 1) H G1 hd1 (by rw [hw1]; simp) rfl (by decide) hl3 (clear_item (I := [_, _]) H (i := mkI B #[.int .u8 97] 5) (by simp) (fun q hq => (Option.some.inj hq).symm)) (fun w4 h => absurd h (by decide)) (fun w4 _ h => absurd h (by decide)) (fun w4 _ _ h => ?_) (fun rt2 rb2 d2 w4 _ _ hfit2 G2 hd2 hl2 hw2 H => ?_)
  · exfalso
    rw [ch_len, hl1] at h
    simp [fsize, num_small] at h
  repeat (first | ((first | refine val_box H ?_ | refine val_alloc H (fun w => by simp [go_sem]; rfl) ?_); clear H; intro B w hB hp H; clear hB hp; try simp only [List.set_cons_zero, List.set_cons_succ, List.setIfInBounds_toArray, List.set_set, Value.cells] at H) | (first | refine val_ld H (fun w => by simp [go_sem]) (by with_reducible repeat (first | exact At.zero | apply At.succ)) (by rfl) ?_ | refine rd_ld H (fun w => by simp [go_sem]) (by with_reducible repeat (first | exact At.zero | apply At.succ)) (by rfl) ?_ | refine val_ldB H (by with_reducible repeat (first | exact At.zero | apply At.succ)) (aggT (by kernel_rfl)) ?_ | refine rd_ldB H (by with_reducible repeat (first | exact At.zero | apply At.succ)) (aggT (by kernel_rfl)) ?_) | ((first | refine unt_st H (by with_reducible repeat (first | exact At.zero | apply At.succ)) (fun w => by simp [go_sem]) (by rfl) (by rfl) ?_ | refine unt_stB H (by with_reducible repeat (first | exact At.zero | apply At.succ)) (aggT (by kernel_rfl)) (by rfl) (by rfl) ?_); clear H; intro w ho H; clear ho; try simp only [List.set_cons_zero, List.set_cons_succ, List.setIfInBounds_toArray, List.set_set, Value.cells] at H) | (refine val_at_bs ?_; ((refine val_run (by simp [go_sem]; (try simp (disch := omega) only [w_i64, w_u64, w_u32, w_u16, w_u8, w_i32]); rfl) ?_); refine onOk_bs H ?_; clear H; intro B w hB hp H; clear hB hp; try simp only [List.set_cons_zero, List.set_cons_succ, List.setIfInBounds_toArray, List.set_set, Value.cells] at H)) | (first | (refine val_run (by simp [bin, nilc, go_sem]; (try simp (disch := omega) only [w_i64, w_u64, w_u32, w_u16, w_u8, w_i32]); rfl) ?_; refine onOk_in ?_) | (refine pu_run (fun w => by simp [bin, nilc, go_sem]; (try simp (disch := omega) only [w_i64, w_u64, w_u32, w_u16, w_u8, w_i32]); rfl) ?_; refine puR_in ?_) | (refine tk_run (fun w => by simp [bin, nilc, go_sem]; (try simp (disch := omega) only [w_i64, w_u64, w_u32, w_u16, w_u8, w_i32]); rfl) ?_; refine puR_in ?_)) | (refine tk_at_in ?_) | (refine ph_at ?_) | (refine ph_pure (Only.refl _ _) ?_) | (refine ph_k H (by with_reducible repeat (first | exact At.zero | apply At.succ)) ?_) | (refine tk_k (fun w => by simp [go_sem]) (by rfl) ?_) | (refine ph_pure H.only ?_) | (refine ph_pure (hpT.trans H.only (fun _ _ k => k)) ?_) | (refine tk_pld H (fun w => by simp [go_sem]) (by with_reducible repeat (first | exact At.zero | apply At.succ)) (by rfl) ?_) | (refine tk_pldB H (by with_reducible repeat (first | exact At.zero | apply At.succ)) (aggT (by kernel_rfl)) ?_) | (refine gd_true_in ?_) | (refine gd_false_in ?_) | (refine gd_true_in' ?_) | (refine gd_false_in' ?_))
  refine wsync H G2 hd2 (by rw [hw1] at hw2; simp at hw2; omega) fun d3 w5 G3 hd3 hl3' hw3 H => ?_
  repeat (first | ((first | refine val_box H ?_ | refine val_alloc H (fun w => by simp [go_sem]; rfl) ?_); clear H; intro B w hB hp H; clear hB hp; try simp only [List.set_cons_zero, List.set_cons_succ, List.setIfInBounds_toArray, List.set_set, Value.cells] at H) | (first | refine val_ld H (fun w => by simp [go_sem]) (by with_reducible repeat (first | exact At.zero | apply At.succ)) (by rfl) ?_ | refine rd_ld H (fun w => by simp [go_sem]) (by with_reducible repeat (first | exact At.zero | apply At.succ)) (by rfl) ?_ | refine val_ldB H (by with_reducible repeat (first | exact At.zero | apply At.succ)) (aggT (by kernel_rfl)) ?_ | refine rd_ldB H (by with_reducible repeat (first | exact At.zero | apply At.succ)) (aggT (by kernel_rfl)) ?_) | ((first | refine unt_st H (by with_reducible repeat (first | exact At.zero | apply At.succ)) (fun w => by simp [go_sem]) (by rfl) (by rfl) ?_ | refine unt_stB H (by with_reducible repeat (first | exact At.zero | apply At.succ)) (aggT (by kernel_rfl)) (by rfl) (by rfl) ?_); clear H; intro w ho H; clear ho; try simp only [List.set_cons_zero, List.set_cons_succ, List.setIfInBounds_toArray, List.set_set, Value.cells] at H) | (refine val_at_bs ?_; ((refine val_run (by simp [go_sem]; (try simp (disch := omega) only [w_i64, w_u64, w_u32, w_u16, w_u8, w_i32]); rfl) ?_); refine onOk_bs H ?_; clear H; intro B w hB hp H; clear hB hp; try simp only [List.set_cons_zero, List.set_cons_succ, List.setIfInBounds_toArray, List.set_set, Value.cells] at H)) | (first | (refine val_run (by simp [bin, nilc, go_sem]; (try simp (disch := omega) only [w_i64, w_u64, w_u32, w_u16, w_u8, w_i32]); rfl) ?_; refine onOk_in ?_) | (refine pu_run (fun w => by simp [bin, nilc, go_sem]; (try simp (disch := omega) only [w_i64, w_u64, w_u32, w_u16, w_u8, w_i32]); rfl) ?_; refine puR_in ?_) | (refine tk_run (fun w => by simp [bin, nilc, go_sem]; (try simp (disch := omega) only [w_i64, w_u64, w_u32, w_u16, w_u8, w_i32]); rfl) ?_; refine puR_in ?_)) | (refine tk_at_in ?_) | (refine ph_at ?_) | (refine ph_pure (Only.refl _ _) ?_) | (refine ph_k H (by with_reducible repeat (first | exact At.zero | apply At.succ)) ?_) | (refine tk_k (fun w => by simp [go_sem]) (by rfl) ?_) | (refine ph_pure H.only ?_) | (refine ph_pure (hpT.trans H.only (fun _ _ k => k)) ?_) | (refine tk_pld H (fun w => by simp [go_sem]) (by with_reducible repeat (first | exact At.zero | apply At.succ)) (by rfl) ?_) | (refine tk_pldB H (by with_reducible repeat (first | exact At.zero | apply At.succ)) (aggT (by kernel_rfl)) ?_) | (refine gd_true_in ?_) | (refine gd_false_in ?_) | (refine gd_true_in' ?_) | (refine gd_false_in' ?_))
  obtain ⟨B1, rfl⟩ : ∃ x, x = B := ⟨_, rfl⟩
  refine val_cb H (j := 0) (by with_reducible repeat (first | exact At.zero | apply At.succ)) Try.underlying24 Try.underlying5 fun w6 H => ?_
  simp only [List.set_cons_zero, List.set_cons_succ, List.setIfInBounds_toArray, List.set_set, Value.cells] at H
  repeat (first | ((first | refine val_box H ?_ | refine val_alloc H (fun w => by simp [go_sem]; rfl) ?_); clear H; intro B w hB hp H; clear hB hp; try simp only [List.set_cons_zero, List.set_cons_succ, List.setIfInBounds_toArray, List.set_set, Value.cells] at H) | (first | refine val_ld H (fun w => by simp [go_sem]) (by with_reducible repeat (first | exact At.zero | apply At.succ)) (by rfl) ?_ | refine rd_ld H (fun w => by simp [go_sem]) (by with_reducible repeat (first | exact At.zero | apply At.succ)) (by rfl) ?_ | refine val_ldB H (by with_reducible repeat (first | exact At.zero | apply At.succ)) (aggT (by kernel_rfl)) ?_ | refine rd_ldB H (by with_reducible repeat (first | exact At.zero | apply At.succ)) (aggT (by kernel_rfl)) ?_) | ((first | refine unt_st H (by with_reducible repeat (first | exact At.zero | apply At.succ)) (fun w => by simp [go_sem]) (by rfl) (by rfl) ?_ | refine unt_stB H (by with_reducible repeat (first | exact At.zero | apply At.succ)) (aggT (by kernel_rfl)) (by rfl) (by rfl) ?_); clear H; intro w ho H; clear ho; try simp only [List.set_cons_zero, List.set_cons_succ, List.setIfInBounds_toArray, List.set_set, Value.cells] at H) | (refine val_at_bs ?_; ((refine val_run (by simp [go_sem]; (try simp (disch := omega) only [w_i64, w_u64, w_u32, w_u16, w_u8, w_i32]); rfl) ?_); refine onOk_bs H ?_; clear H; intro B w hB hp H; clear hB hp; try simp only [List.set_cons_zero, List.set_cons_succ, List.setIfInBounds_toArray, List.set_set, Value.cells] at H)) | (first | (refine val_run (by simp [bin, nilc, go_sem]; (try simp (disch := omega) only [w_i64, w_u64, w_u32, w_u16, w_u8, w_i32]); rfl) ?_; refine onOk_in ?_) | (refine pu_run (fun w => by simp [bin, nilc, go_sem]; (try simp (disch := omega) only [w_i64, w_u64, w_u32, w_u16, w_u8, w_i32]); rfl) ?_; refine puR_in ?_) | (refine tk_run (fun w => by simp [bin, nilc, go_sem]; (try simp (disch := omega) only [w_i64, w_u64, w_u32, w_u16, w_u8, w_i32]); rfl) ?_; refine puR_in ?_)) | (refine tk_at_in ?_) | (refine ph_at ?_) | (refine ph_pure (Only.refl _ _) ?_) | (refine ph_k H (by with_reducible repeat (first | exact At.zero | apply At.succ)) ?_) | (refine tk_k (fun w => by simp [go_sem]) (by rfl) ?_) | (refine ph_pure H.only ?_) | (refine ph_pure (hpT.trans H.only (fun _ _ k => k)) ?_) | (refine tk_pld H (fun w => by simp [go_sem]) (by with_reducible repeat (first | exact At.zero | apply At.succ)) (by rfl) ?_) | (refine tk_pldB H (by with_reducible repeat (first | exact At.zero | apply At.succ)) (aggT (by kernel_rfl)) ?_) | (refine gd_true_in ?_) | (refine gd_false_in ?_) | (refine gd_true_in' ?_) | (refine gd_false_in' ?_))
  (replace H := H.toFront (i := dkI D ra none d3) (by with_reducible repeat (first | exact At.zero | apply At.succ)); simp only [List.eraseIdx_cons_zero, List.eraseIdx_cons_succ] at H)
  (replace H := H.toFront (i := lgI BL rt2 D (Lg.at_ 0 1 [] ([] ++ ([] ++ [⟨1, [97]⟩])) [])) (by with_reducible repeat (first | exact At.zero | apply At.succ)); simp only [List.eraseIdx_cons_zero, List.eraseIdx_cons_succ] at H)
  have hl6 : Lies w6 (some ⟨B1, 0, none⟩) (ub [98]) := mkI_lies (H.ok (mkI B1 #[.int .u8 98] 5) (At.mem (by with_reducible repeat (first | exact At.zero | apply At.succ))))
  refine wappend (r := ⟨2, [98]⟩) (n := 1) H G3 hd3 (by rw [hw3]; simp) rfl (by decide) hl6 (clear_item (I := [_, _]) H (i := mkI B1 #[.int .u8 98] 5) (by simp) (fun q hq => (Option.some.inj hq).symm)) (fun w4 h => absurd h (by decide)) (fun w4 _ h => absurd h (by decide)) (fun w4 _ _ h => ?_) (fun rt4 rb4 d4 w7 _ _ hfit4 G4 hd4 hl4 hw4 H => ?_)
  · exfalso
    rw [ch_len, hl3', hl2, hl1] at h
    simp [fsize, num_small] at h
  refine dcrash_nil (H.ok (dkI D ra rb4 d4) (At.mem (by with_reducible repeat (first | exact At.zero | apply At.succ)))) G4.ok (by rw [hw3] at hw4; simp at hw4; omega) fun w8 h8 => ?_
  replace H := H.frame1 (j := 1) (by with_reducible repeat (first | exact At.zero | apply At.succ)) h8
  simp only [List.set_cons_zero, List.set_cons_succ, List.setIfInBounds_toArray, List.set_set, Value.cells] at H
  refine dup_ret (j := 1) H (by with_reducible repeat (first | exact At.zero | apply At.succ)) fun w9 H => ?_
  simp only [List.set_cons_zero, List.set_cons_succ, List.setIfInBounds_toArray, List.set_set, Value.cells] at H
  (replace H := H.toFront (i := dkI D ra none ⟨(d4.settle fun _ => false).l, (d4.settle fun _ => false).ws, false⟩) (by with_reducible repeat (first | exact At.zero | apply At.succ)); simp only [List.eraseIdx_cons_zero, List.eraseIdx_cons_succ] at H)
  obtain ⟨p1, p2, p3, p4⟩ := open_lost G4 (by decide)
  have hok' := G4.ok.settle fun _ => false
  have hsl : (d4.settle fun _ => false).l.length = d4.l.length := puts_length _ _
  refine wopen H ⟨hok'.sec, hok'.ws, hok'.len⟩ rfl (by simp only [hsl]; exact G4.n4) (by simp [Dk.settle]) p1 p2 (by decide) (by simp only [hsl]; exact p3) p4 fun BL2 rt5 xs a5 cap5 d5 w10 hxs G5 hd5 hl5 hw5 H => ?_
  have hxl : xs.length = 1 := by
    have := congrArg List.length hxs
    simpa [rsOf] using this
  obtain ⟨x, rfl⟩ := List.length_eq_one_iff.1 hxl
  have hxr : x.r = ⟨1, [97]⟩ := by simpa [rsOf] using hxs
  have hrec := recs_of (xs := [x]) (a := a5) (n := [x].length) (cap := cap5) H (At.mem (by with_reducible repeat (first | exact At.zero | apply At.succ))) (At.mem (by with_reducible repeat (first | exact At.zero | apply At.succ)))
  have hdat := hrec.2 x (by simp)
  have hrc : recsC [x] = [.int .u8 x.r.k.toNat, .slice x.a x.r.d.length x.cap] := rfl
  rw [hrc] at H
  rw [hxr] at H hdat
  obtain ⟨g5, rfl, _⟩ := (H.row (q := 2) (by with_reducible repeat (first | exact At.zero | apply At.succ))).addr (by simp)
  repeat (first | ((first | refine val_box H ?_ | refine val_alloc H (fun w => by simp [go_sem]; rfl) ?_); clear H; intro B w hB hp H; clear hB hp; try simp only [List.set_cons_zero, List.set_cons_succ, List.setIfInBounds_toArray, List.set_set, Value.cells] at H) | (first | refine val_ld H (fun w => by simp [go_sem]) (by with_reducible repeat (first | exact At.zero | apply At.succ)) (by rfl) ?_ | refine rd_ld H (fun w => by simp [go_sem]) (by with_reducible repeat (first | exact At.zero | apply At.succ)) (by rfl) ?_ | refine val_ldB H (by with_reducible repeat (first | exact At.zero | apply At.succ)) (aggT (by kernel_rfl)) ?_ | refine rd_ldB H (by with_reducible repeat (first | exact At.zero | apply At.succ)) (aggT (by kernel_rfl)) ?_) | ((first | refine unt_st H (by with_reducible repeat (first | exact At.zero | apply At.succ)) (fun w => by simp [go_sem]) (by rfl) (by rfl) ?_ | refine unt_stB H (by with_reducible repeat (first | exact At.zero | apply At.succ)) (aggT (by kernel_rfl)) (by rfl) (by rfl) ?_); clear H; intro w ho H; clear ho; try simp only [List.set_cons_zero, List.set_cons_succ, List.setIfInBounds_toArray, List.set_set, Value.cells] at H) | (refine val_at_bs ?_; ((refine val_run (by simp [go_sem]; (try simp (disch := omega) only [w_i64, w_u64, w_u32, w_u16, w_u8, w_i32]); rfl) ?_); refine onOk_bs H ?_; clear H; intro B w hB hp H; clear hB hp; try simp only [List.set_cons_zero, List.set_cons_succ, List.setIfInBounds_toArray, List.set_set, Value.cells] at H)) | (first | (refine val_run (by simp [bin, nilc, go_sem]; (try simp (disch := omega) only [w_i64, w_u64, w_u32, w_u16, w_u8, w_i32]); rfl) ?_; refine onOk_in ?_) | (refine pu_run (fun w => by simp [bin, nilc, go_sem]; (try simp (disch := omega) only [w_i64, w_u64, w_u32, w_u16, w_u8, w_i32]); rfl) ?_; refine puR_in ?_) | (refine tk_run (fun w => by simp [bin, nilc, go_sem]; (try simp (disch := omega) only [w_i64, w_u64, w_u32, w_u16, w_u8, w_i32]); rfl) ?_; refine puR_in ?_)) | (refine tk_at_in ?_) | (refine ph_at ?_) | (refine ph_pure (Only.refl _ _) ?_) | (refine ph_k H (by with_reducible repeat (first | exact At.zero | apply At.succ)) ?_) | (refine tk_k (fun w => by simp [go_sem]) (by rfl) ?_) | (refine ph_pure H.only ?_) | (refine ph_pure (hpT.trans H.only (fun _ _ k => k)) ?_) | (refine tk_pld H (fun w => by simp [go_sem]) (by with_reducible repeat (first | exact At.zero | apply At.succ)) (by rfl) ?_) | (refine tk_pldB H (by with_reducible repeat (first | exact At.zero | apply At.succ)) (aggT (by kernel_rfl)) ?_) | (refine gd_true_in ?_) | (refine gd_false_in ?_) | (refine gd_true_in' ?_) | (refine gd_false_in' ?_))
  refine val_ldr (q := 2) H (fun w => by simp [go_sem]) (by with_reducible repeat (first | exact At.zero | apply At.succ)) rfl ?_
  refine val_conv Try.underlying24 Try.underlying5 Try.underlying9 rfl hdat ?_
  refine val_run (run_eqs (P := Try.prog) [97] [97] _) ?_
  refine onOk_in ?_
  exact k _ H.only
end
end Go.Proofs.Ytchmcjimnliodaa
end
section
set_option linter.unusedSimpArgs false
set_option linter.unusedVariables false
/- Logs that are well: Rewrite. -/
namespace Go.Proofs.Ytchmcjimnliodaa
open Go Go.RowKit
set_option maxRecDepth 10000
set_option linter.unusedSimpArgs false
set_option linter.unusedVariables false

theorem ch_made (rs : List Rec) : chain 0 (rs ++ [sealR]) = ch rs [] [] := by unfold ch logR; simp
section
variable {S : Nat → Prop} {w0 w : World} {L : List It} {D BL : Nat} {ra rb rt : Option Nat} {d : Dk} {K : Value → World → Prop} {half t : Nat} {a s b : List Rec}
theorem wrewrite (H : Hp S w0 w (lgI BL rt D (Lg.at_ half t a s b) :: dkI D ra rb d :: L)) (G : Good d half t a s b) (hd : d.down = false) (hws : d.ws.length ≤ 549755813888) (ht : t + 1 < 9223372036854775808)
    {ar : Option Addr} {xs : List RecAt} {n cap : Nat} (hn : n = xs.length) (hn40 : n ≤ 1048576) (hcap : n ≤ cap) (hr : RecsOk w (fpL [lgI BL rt D (Lg.at_ half t a s b), dkI D ra rb d]) ar xs) (hk : ∀ x ∈ xs, x.r.k ≠ 255)
    (k6 : ∀ w', 55 * (d.l.length / 2) < (ch (rsOf xs) [] []).length → Hp S w0 w' (lgI BL rt D (Lg.at_ half t a s b) :: dkI D ra rb d :: L) → K (.int .i64 6) w')
    (k : ∀ rt' d' w', (ch (rsOf xs) [] []).length ≤ 55 * (d.l.length / 2) → Good d' (1 - half) (t + 1) (rsOf xs) [] [] → d'.down = false → d'.l.length = d.l.length → d'.ws = [] → Hp S w0 w' (lgI BL rt' D (Lg.at_ (1 - half) (t + 1) (rsOf xs) [] []) :: dkI D ra none d' :: L) → K (.int .i64 0) w') :
    Ret Try.prog 43 #[.pointer (some ⟨BL, 0, none⟩), .slice ar n cap] w K := by
  refine rewrite_ret (H.many (I := [_, _]) (M := L)) G.ok hd (show t + 1 < _ by omega) G.h1 hws hn hn40 hcap hr hk (fun w' h1 h2 => k6 w' (by rw [← ch_made]; exact h1) (H.frameL (I := [_, _]) h2)) (fun rt' w' h1 h2 => ?_)
  have h3 := H.frameL (I := [_, _]) h2
  have e : Lg.made (1 - (Lg.at_ half t a s b).half) ((Lg.at_ half t a s b).turn + 1) (rsOf xs) = Lg.at_ (1 - half) (t + 1) (rsOf xs) [] [] := made_at _ _ _
  rw [e] at h3
  obtain ⟨_, p2, _, _⟩ := open_now G hd ht
  refine k rt' _ w' (by rw [← ch_made]; exact h1) (made_good G.ok hd G.n4 (show 1 - half ≤ 1 by omega) (show 0 < t + 1 by omega) ht (fun r hr' => ?_) h1 (fun x hx => ?_)) hd (made_len _ _ _ _) rfl h3
  · obtain ⟨x, hx, rfl⟩ := List.mem_map.1 hr'
    exact ⟨hr.small x hx, hk x hx⟩
  · have := greatest_le d.now x hx
    show turnOf x < t + 1
    omega
theorem recsOk_old {I M : List It} (H : Hp (fun _ => False) w0 w (I ++ M)) {ar : Option Addr} {xs : List RecAt} (hr : Recs w0 ar xs) (hs : ∀ x ∈ xs, x.r.d.length ≤ 1024) : RecsOk w (fpL I) ar xs :=
  ⟨hr.1.pure H.only, clear_old H hr.1, fun x hx => (hr.2 x hx).pure H.only, fun x hx => clear_old H (hr.2 x hx), hs⟩
end
end Go.Proofs.Ytchmcjimnliodaa
end
section
set_option linter.unusedSimpArgs false
set_option linter.unusedVariables false
/- Arguments that came in: what lies in memory when slices of bytes, and of structs with bytes in them, are read. No program in sight. -/
namespace Go.Proofs.Ytchmcjimnliodaa
open Go Go.RowKit Go.ChangeShapes Go.WideShapes Go.ChangeAt

section
variable {H : Type} {enc : TypeId × Value → H} {P : Program} {w : World} {base : Nat} {spare : Nat → Bool} {held : Bool}
theorem bytes_of (zs : List Int) (hz : ∀ n ∈ zs, (Lit.int .u8 n).wf = true) : ∃ d : List UInt8, d.length = zs.length ∧ ∀ i (h : i < d.length), (zs.getD i 0) = ((d[i]).toNat : Int) := by
  refine ⟨zs.map fun z => UInt8.ofNat z.toNat, by simp, fun i hi => ?_⟩
  have hi' : i < zs.length := by simpa using hi
  have hw := hz _ (List.getElem_mem hi')
  have hb := _root_.Go.bounds_u8 hw
  rw [List.getElem_map, UInt8.toNat_ofNat', List.getD_eq_getElem?_getD, List.getElem?_eq_getElem hi', Option.getD_some]
  omega
/-- A slice of bytes. -/
theorem open_bytes {t e : TypeId} {fuel : Nat} {v : Value} {x : DataW H × List MemPlace} (ht : P.underlying t = some (.slice e)) (he : P.underlying e = some (.int .u8)) (hc : P.cellsOf e = 1) (h : DataW.trod enc P w base spare held fuel t [v] = some x) :
    ∃ (a : Option Addr) (d : List UInt8) (cap : Nat), v = .slice a d.length cap ∧ Lies w a (ub d) ∧ d.length ≤ cap ∧ cap ≤ maxLen := by
  rcases open_ints ht he hc h with ⟨hcs, _⟩ | ⟨a, l, c, zs, hcs, _, hl, hm, hz, _, hcell, hwz⟩
  · obtain rfl : v = .slice none 0 0 := by simpa using hcs
    exact ⟨none, [], 0, rfl, Lies.nil _ _, Nat.le_refl _, Nat.zero_le _⟩
  · obtain rfl : v = .slice (some a) l c := by simpa using hcs
    obtain ⟨d, hd, hdz⟩ := bytes_of zs hwz
    have hlz : l ≤ zs.length := by rw [hz]; split <;> omega
    refine ⟨some a, d.take l, c, by simp [hd, Nat.min_eq_left hlz], ?_, by simp; omega, hm⟩
    intro j u hj
    have hjl : j < l ∧ j < d.length := by
      have := (List.getElem?_eq_some_iff.1 hj).1
      simp [ub] at this; omega
    have hu : u = .int .u8 (d[j]'hjl.2).toNat := by
      have := (List.getElem?_eq_some_iff.1 hj).2
      rw [← this]
      simp [ub]
    obtain ⟨b, off, rfl, hx⟩ := _root_.Go.ints_at hcell (by omega)
    refine ⟨b, off, rfl, ?_⟩
    rw [hx j (by omega), hu, hdz j hjl.2]
end
end Go.Proofs.Ytchmcjimnliodaa
end
section
set_option linter.unusedSimpArgs false
set_option linter.unusedVariables false
/- Records that came in, read. -/
namespace Go.Proofs.Ytchmcjimnliodaa
open Go Go.RowKit Go.ChangeShapes Go.WideShapes Go.ChangeAt Go.Deep

instance : Inhabited RecAt := ⟨⟨⟨0, []⟩, none, 0⟩⟩
theorem flat_inv (xs : List RecAt) : ∀ (j : Nat) (u : Value), (xs.flatMap RecAt.cells)[j]? = some u →
    ∃ i, ∃ h : i < xs.length, (j = i * 2 ∧ u = .int .u8 (xs[i]).r.k.toNat) ∨ (j = i * 2 + 1 ∧ u = .slice (xs[i]).a (xs[i]).r.d.length (xs[i]).cap) := by
  induction xs with
  | nil => intro j u h; simp at h
  | cons x xs ih =>
    intro j u h
    match j, h with
    | 0, h => exact ⟨0, by simp, .inl ⟨rfl, by simpa [RecAt.cells] using h.symm⟩⟩
    | 1, h => exact ⟨0, by simp, .inr ⟨rfl, by simpa [RecAt.cells] using h.symm⟩⟩
    | j + 2, h =>
      simp only [List.flatMap_cons, RecAt.cells, List.cons_append, List.nil_append, List.getElem?_cons_succ] at h
      obtain ⟨i, hi, h1⟩ := ih j u h
      refine ⟨i + 1, by simpa using hi, ?_⟩
      rcases h1 with ⟨rfl, rfl⟩ | ⟨rfl, rfl⟩
      · exact .inl ⟨by omega, by simp⟩
      · exact .inr ⟨by omega, by simp⟩
section
variable {H : Type} {enc : TypeId × Value → H} {P : Program} {w : World} {base : Nat} {spare : Nat → Bool} {held : Bool}
/-- A slice of records. -/
theorem open_recs {t e eb : TypeId} {f0 f1 : Field} {fuel : Nat} {v : Value} {x : DataW H × List MemPlace} (ht : P.underlying t = some (.slice e)) (he : P.underlying e = some (.struct #[f0, f1]))
    (ce : P.cellsOf e = 2) (o0 : f0.offset = 0) (o1 : f1.offset = 1) (c0 : P.cellsOf f0.type = 1) (c1 : P.cellsOf f1.type = 1) (h0 : P.underlying f0.type = some (.int .u8)) (h1 : P.underlying f1.type = some (.slice eb)) (h2 : P.underlying eb = some (.int .u8)) (cb : P.cellsOf eb = 1)
    (h : DataW.trod enc P w base spare held fuel t [v] = some x) :
    ∃ (a : Option Addr) (xs : List RecAt) (cap : Nat), v = .slice a xs.length cap ∧ Recs w a xs ∧ xs.length ≤ cap ∧ cap ≤ maxLen := by
  rcases open_slice_pairs ht he ce o0 o1 c0 c1 h with ⟨hcs, _⟩ | ⟨a, len, cap, m, n, V0, V1, D0, D1, P0, P1, hcs, _, hl, hm, hmm, _, hx⟩
  · obtain rfl : v = .slice none 0 0 := by simpa using hcs
    exact ⟨none, [], 0, rfl, ⟨Lies.nil _ _, by simp⟩, Nat.le_refl _, Nat.zero_le _⟩
  · obtain rfl : v = .slice (some a) len cap := by simpa using hcs
    have hlm : len ≤ m := by rw [hmm]; split <;> omega
    obtain ⟨Y, hY⟩ := choose_lt (n := len) (α := RecAt) (p := fun i y => V0 i = .int .u8 y.r.k.toNat ∧ V1 i = .slice y.a y.r.d.length y.cap ∧ Lies w y.a (ub y.r.d)) (fun i hi => by
      obtain ⟨_, _, t0, t1⟩ := hx i (by omega)
      obtain ⟨z, e0, _, wz⟩ := DataW.trod_int h0 t0
      obtain ⟨ax, d, cx, e1, hlies, _⟩ := open_bytes h1 h2 cb t1
      have hb := _root_.Go.bounds_u8 wz
      have e2 : V0 i = .int .u8 z := by simpa using e0
      refine ⟨⟨⟨UInt8.ofNat z.toNat, d⟩, ax, cx⟩, ?_, e1, hlies⟩
      rw [e2]
      simp only [UInt8.toNat_ofNat']
      congr 1
      omega)
    refine ⟨some a, (List.range len).map Y, cap, by simp, ⟨?_, ?_⟩, by simpa using hl, hm⟩
    · intro j u hj
      obtain ⟨i, hi, h3⟩ := flat_inv _ j u hj
      have hi' : i < len := by simpa using hi
      obtain ⟨k0, k1, _⟩ := hx i (by omega)
      obtain ⟨y0, y1, _⟩ := hY i hi'
      obtain ⟨b, off, spot⟩ := a
      have hspot : spot = none := by simpa [Addr.add] using World.cell?_spot (hx 0 (by omega)).1
      subst hspot
      refine ⟨b, off, rfl, ?_⟩
      rw [Go.WideShapes.add_plain] at k0 k1
      rcases h3 with ⟨rfl, rfl⟩ | ⟨rfl, rfl⟩
      · rw [k0, y0]; simp
      · rw [show off + (i * 2 + 1) = off + (i * 2 + 1) from rfl, k1, y1]; simp
    · intro y hy
      obtain ⟨i, hi, rfl⟩ := List.mem_map.1 hy
      exact (hY i (by simpa using hi)).2.2
end
end Go.Proofs.Ytchmcjimnliodaa
end
section
set_option linter.unusedSimpArgs false
set_option linter.unusedVariables false
/- From a function's answer to the row's: nothing that was there has turned. -/
namespace Go.Proofs.Ytchmcjimnliodaa
open Go Go.RowKit
theorem close {P : Program} {f : FuncId} {args : Array Value} {w : World} (h : Ret P f args w fun v w' => v = .bool true ∧ Pure w w') :
    Calls P f args w fun e w' => e = .returned (.bool true) ∧ Below w.heap.size w w' :=
  h.calls.mono fun _ _ ⟨_, e, hv, hp⟩ => ⟨by rw [e, hv], hp.below (Nat.le_refl _) (fun _ _ => id)⟩
theorem u32_of {n : Int} (h : (Lit.int .u32 n).wf = true) : ∃ b : BitVec 32, n = (b.toNat : Int) := by
  have := bounds_u32 h
  exact ⟨BitVec.ofNat 32 n.toNat, by rw [BitVec.toNat_ofNat]; omega⟩
theorem u16_of {n : Int} (h : (Lit.int .u16 n).wf = true) : ∃ b : Nat, n = (b : Int) ∧ b < 65536 := by
  have := bounds_u16 h
  exact ⟨n.toNat, by omega, by omega⟩
theorem u8_of {n : Int} (h : (Lit.int .u8 n).wf = true) : ∃ b : UInt8, n = (b.toNat : Int) := by
  have := bounds_u8 h
  exact ⟨UInt8.ofNat n.toNat, by rw [UInt8.toNat_ofNat']; omega⟩
end Go.Proofs.Ytchmcjimnliodaa
end
