/- What the functions of calendar give: digits, Text. -/
import Derived.Test.YtipeanblfjimdaaDoorCW3
import Derived.Test.YtipeanblfjimdaaDoorCalD
namespace Go.Proofs.YtipeanblfjimdaaDoor
open Go Go.RowKit
set_option maxRecDepth 10000
set_option linter.unusedSimpArgs false
set_option linter.unusedVariables false

section
variable {w : World} {K : Value → World → Prop}
def lenS : Value → Nat
  | .string s => s.data.size
  | _ => 0
set_option maxHeartbeats 1000000 in
theorem lawdig_ret {wb : World} {n least : Nat} (hn : n ≤ 9000000) (h1 : 1 ≤ least) (h2 : least ≤ 10) (k : ∀ w', Pure wb w' → K (.string ⟨⟨padD n least⟩⟩) w') : Ret Tryd.prog 8 #[.int .i64 n, .int .i64 least] wb K := by
  have H := Hp.start (fun _ => False) wb
  apply e8
  unfold c8
  refine loop2 (fun a b W => ∃ j, j ≤ max (Lib.nDigits n) least ∧ a = .int .i64 ((n / 10 ^ j : Nat) : Int) ∧ b = .string ⟨⟨lowD n j⟩⟩ ∧ Hp (fun _ => False) wb W []) (fun a b _ => max (Lib.nDigits n) least - lenS b) ⟨0, Nat.zero_le _, by simp, rfl, H⟩ ?_
  clear H
  rintro _ _ w1 ⟨j, hj, rfl, rfl, H⟩
  unfold c8_2
  have hjl : lenS (.string ⟨⟨lowD n j⟩⟩) = j := by simp [lenS, lowD_length]
  rw [hjl]
  have hxl : n / 10 ^ j ≤ n := Nat.div_le_self _ _
  refine join0 (fun W => j < max (Lib.nDigits n) least ∧ Hp (fun _ => False) wb W []) ?_ ?_
  · rintro w2 ⟨hj2, H⟩
    unfold c8_1
    obtain ⟨x, hx⟩ : ∃ x, x = n / 10 ^ j := ⟨_, rfl⟩
    have hnext : n / 10 ^ (j + 1) = x / 10 := by rw [hx, Nat.pow_succ, Nat.div_div_eq_div_mul]
    have hlow := lowD_more j n
    rw [← hx] at hlow hxl ⊢
    repeat (first | ((first | refine val_box H ?_ | refine val_alloc H (fun w => by simp [go_sem]; rfl) ?_); clear H; intro B w hB hp H; clear hB hp; try simp only [List.set_cons_zero, List.set_cons_succ, List.setIfInBounds_toArray, List.set_set, Value.cells] at H) | (first | refine val_ld H (fun w => by simp [go_sem]) (by with_reducible repeat (first | exact At.zero | apply At.succ)) (by rfl) ?_ | refine rd_ld H (fun w => by simp [go_sem]) (by with_reducible repeat (first | exact At.zero | apply At.succ)) (by rfl) ?_ | refine val_ldB H (by with_reducible repeat (first | exact At.zero | apply At.succ)) (aggT (by kernel_rfl)) ?_ | refine rd_ldB H (by with_reducible repeat (first | exact At.zero | apply At.succ)) (aggT (by kernel_rfl)) ?_) | ((first | refine unt_st H (by with_reducible repeat (first | exact At.zero | apply At.succ)) (fun w => by simp [go_sem]) (by rfl) (by rfl) ?_ | refine unt_stB H (by with_reducible repeat (first | exact At.zero | apply At.succ)) (aggT (by kernel_rfl)) (by rfl) (by rfl) ?_); clear H; intro w ho H; clear ho; try simp only [List.set_cons_zero, List.set_cons_succ, List.setIfInBounds_toArray, List.set_set, Value.cells] at H) | (refine val_at_bs ?_; ((refine val_run (by simp [go_sem]; (try simp (disch := omega) only [w_i64, w_u64, w_u32, w_u16, w_u8, w_i32, Int.tdiv_eq_ediv_of_nonneg, Int.tmod_eq_emod_of_nonneg]); rfl) ?_); refine onOk_bs H ?_; clear H; intro B w hB hp H; clear hB hp; try simp only [List.set_cons_zero, List.set_cons_succ, List.setIfInBounds_toArray, List.set_set, Value.cells] at H)) | (first | (refine val_run (by simp [bin, nilc, go_sem]; (try simp (disch := omega) only [w_i64, w_u64, w_u32, w_u16, w_u8, w_i32, Int.tdiv_eq_ediv_of_nonneg, Int.tmod_eq_emod_of_nonneg]); rfl) ?_; refine onOk_in ?_) | (refine pu_run (fun w => by simp [bin, nilc, go_sem]; (try simp (disch := omega) only [w_i64, w_u64, w_u32, w_u16, w_u8, w_i32, Int.tdiv_eq_ediv_of_nonneg, Int.tmod_eq_emod_of_nonneg]); rfl) ?_; refine puR_in ?_) | (refine tk_run (fun w => by simp [bin, nilc, go_sem]; (try simp (disch := omega) only [w_i64, w_u64, w_u32, w_u16, w_u8, w_i32, Int.tdiv_eq_ediv_of_nonneg, Int.tmod_eq_emod_of_nonneg]); rfl) ?_; refine puR_in ?_)) | (refine tk_at_in ?_) | (refine ph_at ?_) | (refine ph_pure (Only.refl _ _) ?_) | (refine ph_k H (by with_reducible repeat (first | exact At.zero | apply At.succ)) ?_) | (refine tk_k (fun w => by simp [go_sem]) (by rfl) ?_) | (refine ph_pure H.only ?_) | (refine ph_pure (hpT.trans H.only (fun _ _ k => k)) ?_) | (refine tk_pld H (fun w => by simp [go_sem]) (by with_reducible repeat (first | exact At.zero | apply At.succ)) (by rfl) ?_) | (refine tk_pldB H (by with_reducible repeat (first | exact At.zero | apply At.succ)) (aggT (by kernel_rfl)) ?_) | (refine gd_true_in ?_) | (refine gd_false_in ?_) | (refine gd_true_in' ?_) | (refine gd_false_in' ?_))
    have hB : Lies w (some ⟨B, 0, none⟩) (ub [UInt8.ofNat (48 + x % 10)]) := by
      have h := Blk.lies (H.ok (.blk B #[.int .u8 (48 + (x : Int) % 10)] 5) (At.mem (by with_reducible repeat (first | exact At.zero | apply At.succ))))
      have e : (#[Value.int .u8 (48 + (x : Int) % 10)] : Array Value).toList = ub [UInt8.ofNat (48 + x % 10)] := by
        show [Value.int .u8 (48 + (x : Int) % 10)] = [Value.int .u8 ((UInt8.ofNat (48 + x % 10)).toNat : Int)]
        rw [UInt8.toNat_ofNat']
        congr 2
        omega
      rw [e] at h
      exact h
    refine val_conv Tryd.underlying38 Tryd.underlying5 Tryd.underlying9 rfl hB ?_
    have hnd := nDigits_le 6 n (Nat.lt_of_le_of_lt hn (by decide))
    (first | (refine val_run (run_adds (by simp only [List.length_cons, List.length_nil, lowD_length]; omega) _) ?_; refine onOk_in ?_) | (refine pu_run (fun w => run_adds (by simp only [List.length_cons, List.length_nil, lowD_length]; omega) w) ?_; refine puR_in ?_))
    repeat (first | ((first | refine val_box H ?_ | refine val_alloc H (fun w => by simp [go_sem]; rfl) ?_); clear H; intro B w hB hp H; clear hB hp; try simp only [List.set_cons_zero, List.set_cons_succ, List.setIfInBounds_toArray, List.set_set, Value.cells] at H) | (first | refine val_ld H (fun w => by simp [go_sem]) (by with_reducible repeat (first | exact At.zero | apply At.succ)) (by rfl) ?_ | refine rd_ld H (fun w => by simp [go_sem]) (by with_reducible repeat (first | exact At.zero | apply At.succ)) (by rfl) ?_ | refine val_ldB H (by with_reducible repeat (first | exact At.zero | apply At.succ)) (aggT (by kernel_rfl)) ?_ | refine rd_ldB H (by with_reducible repeat (first | exact At.zero | apply At.succ)) (aggT (by kernel_rfl)) ?_) | ((first | refine unt_st H (by with_reducible repeat (first | exact At.zero | apply At.succ)) (fun w => by simp [go_sem]) (by rfl) (by rfl) ?_ | refine unt_stB H (by with_reducible repeat (first | exact At.zero | apply At.succ)) (aggT (by kernel_rfl)) (by rfl) (by rfl) ?_); clear H; intro w ho H; clear ho; try simp only [List.set_cons_zero, List.set_cons_succ, List.setIfInBounds_toArray, List.set_set, Value.cells] at H) | (refine val_at_bs ?_; ((refine val_run (by simp [go_sem]; (try simp (disch := omega) only [w_i64, w_u64, w_u32, w_u16, w_u8, w_i32, Int.tdiv_eq_ediv_of_nonneg, Int.tmod_eq_emod_of_nonneg]); rfl) ?_); refine onOk_bs H ?_; clear H; intro B w hB hp H; clear hB hp; try simp only [List.set_cons_zero, List.set_cons_succ, List.setIfInBounds_toArray, List.set_set, Value.cells] at H)) | (first | (refine val_run (by simp [bin, nilc, go_sem]; (try simp (disch := omega) only [w_i64, w_u64, w_u32, w_u16, w_u8, w_i32, Int.tdiv_eq_ediv_of_nonneg, Int.tmod_eq_emod_of_nonneg]); rfl) ?_; refine onOk_in ?_) | (refine pu_run (fun w => by simp [bin, nilc, go_sem]; (try simp (disch := omega) only [w_i64, w_u64, w_u32, w_u16, w_u8, w_i32, Int.tdiv_eq_ediv_of_nonneg, Int.tmod_eq_emod_of_nonneg]); rfl) ?_; refine puR_in ?_) | (refine tk_run (fun w => by simp [bin, nilc, go_sem]; (try simp (disch := omega) only [w_i64, w_u64, w_u32, w_u16, w_u8, w_i32, Int.tdiv_eq_ediv_of_nonneg, Int.tmod_eq_emod_of_nonneg]); rfl) ?_; refine puR_in ?_)) | (refine tk_at_in ?_) | (refine ph_at ?_) | (refine ph_pure (Only.refl _ _) ?_) | (refine ph_k H (by with_reducible repeat (first | exact At.zero | apply At.succ)) ?_) | (refine tk_k (fun w => by simp [go_sem]) (by rfl) ?_) | (refine ph_pure H.only ?_) | (refine ph_pure (hpT.trans H.only (fun _ _ k => k)) ?_) | (refine tk_pld H (fun w => by simp [go_sem]) (by with_reducible repeat (first | exact At.zero | apply At.succ)) (by rfl) ?_) | (refine tk_pldB H (by with_reducible repeat (first | exact At.zero | apply At.succ)) (aggT (by kernel_rfl)) ?_) | (refine gd_true_in ?_) | (refine gd_false_in ?_) | (refine gd_true_in' ?_) | (refine gd_false_in' ?_))
    have e1 : (x : Int) / 10 = ((n / 10 ^ (j + 1) : Nat) : Int) := by rw [hnext]; omega
    have e2 : ([UInt8.ofNat (48 + x % 10)] ++ lowD n j) = lowD n (j + 1) := by rw [hlow]; rfl
    rw [e1, e2]
    refine ⟨⟨j + 1, by omega, rfl, rfl, H.drop (by repeat (first | exact List.Sublist.slnil | apply List.Sublist.cons_cons | apply List.Sublist.cons))⟩, ?_⟩
    have : lenS (.string ⟨⟨lowD n (j + 1)⟩⟩) = j + 1 := by simp [lenS, lowD_length]
    rw [this]
    omega
  · have hp : 0 < 10 ^ j := Nat.pow_pos (by decide)
    obtain ⟨x, hx⟩ : ∃ x, x = n / 10 ^ j := ⟨_, rfl⟩
    rw [← hx] at hxl ⊢
    repeat (first | ((first | refine val_box H ?_ | refine val_alloc H (fun w => by simp [go_sem]; rfl) ?_); clear H; intro B w hB hp H; clear hB hp; try simp only [List.set_cons_zero, List.set_cons_succ, List.setIfInBounds_toArray, List.set_set, Value.cells] at H) | (first | refine val_ld H (fun w => by simp [go_sem]) (by with_reducible repeat (first | exact At.zero | apply At.succ)) (by rfl) ?_ | refine rd_ld H (fun w => by simp [go_sem]) (by with_reducible repeat (first | exact At.zero | apply At.succ)) (by rfl) ?_ | refine val_ldB H (by with_reducible repeat (first | exact At.zero | apply At.succ)) (aggT (by kernel_rfl)) ?_ | refine rd_ldB H (by with_reducible repeat (first | exact At.zero | apply At.succ)) (aggT (by kernel_rfl)) ?_) | ((first | refine unt_st H (by with_reducible repeat (first | exact At.zero | apply At.succ)) (fun w => by simp [go_sem]) (by rfl) (by rfl) ?_ | refine unt_stB H (by with_reducible repeat (first | exact At.zero | apply At.succ)) (aggT (by kernel_rfl)) (by rfl) (by rfl) ?_); clear H; intro w ho H; clear ho; try simp only [List.set_cons_zero, List.set_cons_succ, List.setIfInBounds_toArray, List.set_set, Value.cells] at H) | (refine val_at_bs ?_; ((refine val_run (by simp [go_sem]; (try simp (disch := omega) only [w_i64, w_u64, w_u32, w_u16, w_u8, w_i32, Int.tdiv_eq_ediv_of_nonneg, Int.tmod_eq_emod_of_nonneg]); rfl) ?_); refine onOk_bs H ?_; clear H; intro B w hB hp H; clear hB hp; try simp only [List.set_cons_zero, List.set_cons_succ, List.setIfInBounds_toArray, List.set_set, Value.cells] at H)) | (first | (refine val_run (by simp [bin, nilc, go_sem]; (try simp (disch := omega) only [w_i64, w_u64, w_u32, w_u16, w_u8, w_i32, Int.tdiv_eq_ediv_of_nonneg, Int.tmod_eq_emod_of_nonneg]); rfl) ?_; refine onOk_in ?_) | (refine pu_run (fun w => by simp [bin, nilc, go_sem]; (try simp (disch := omega) only [w_i64, w_u64, w_u32, w_u16, w_u8, w_i32, Int.tdiv_eq_ediv_of_nonneg, Int.tmod_eq_emod_of_nonneg]); rfl) ?_; refine puR_in ?_) | (refine tk_run (fun w => by simp [bin, nilc, go_sem]; (try simp (disch := omega) only [w_i64, w_u64, w_u32, w_u16, w_u8, w_i32, Int.tdiv_eq_ediv_of_nonneg, Int.tmod_eq_emod_of_nonneg]); rfl) ?_; refine puR_in ?_)) | (refine tk_at_in ?_) | (refine ph_at ?_) | (refine ph_pure (Only.refl _ _) ?_) | (refine ph_k H (by with_reducible repeat (first | exact At.zero | apply At.succ)) ?_) | (refine tk_k (fun w => by simp [go_sem]) (by rfl) ?_) | (refine ph_pure H.only ?_) | (refine ph_pure (hpT.trans H.only (fun _ _ k => k)) ?_) | (refine tk_pld H (fun w => by simp [go_sem]) (by with_reducible repeat (first | exact At.zero | apply At.succ)) (by rfl) ?_) | (refine tk_pldB H (by with_reducible repeat (first | exact At.zero | apply At.succ)) (aggT (by kernel_rfl)) ?_) | (refine gd_true_in ?_) | (refine gd_false_in ?_) | (refine gd_true_in' ?_) | (refine gd_false_in' ?_))
    refine gd_dec' (fun h0 => ?_) (fun h0 => ?_)
    · repeat (first | ((first | refine val_box H ?_ | refine val_alloc H (fun w => by simp [go_sem]; rfl) ?_); clear H; intro B w hB hp H; clear hB hp; try simp only [List.set_cons_zero, List.set_cons_succ, List.setIfInBounds_toArray, List.set_set, Value.cells] at H) | (first | refine val_ld H (fun w => by simp [go_sem]) (by with_reducible repeat (first | exact At.zero | apply At.succ)) (by rfl) ?_ | refine rd_ld H (fun w => by simp [go_sem]) (by with_reducible repeat (first | exact At.zero | apply At.succ)) (by rfl) ?_ | refine val_ldB H (by with_reducible repeat (first | exact At.zero | apply At.succ)) (aggT (by kernel_rfl)) ?_ | refine rd_ldB H (by with_reducible repeat (first | exact At.zero | apply At.succ)) (aggT (by kernel_rfl)) ?_) | ((first | refine unt_st H (by with_reducible repeat (first | exact At.zero | apply At.succ)) (fun w => by simp [go_sem]) (by rfl) (by rfl) ?_ | refine unt_stB H (by with_reducible repeat (first | exact At.zero | apply At.succ)) (aggT (by kernel_rfl)) (by rfl) (by rfl) ?_); clear H; intro w ho H; clear ho; try simp only [List.set_cons_zero, List.set_cons_succ, List.setIfInBounds_toArray, List.set_set, Value.cells] at H) | (refine val_at_bs ?_; ((refine val_run (by simp [go_sem]; (try simp (disch := omega) only [w_i64, w_u64, w_u32, w_u16, w_u8, w_i32, Int.tdiv_eq_ediv_of_nonneg, Int.tmod_eq_emod_of_nonneg]); rfl) ?_); refine onOk_bs H ?_; clear H; intro B w hB hp H; clear hB hp; try simp only [List.set_cons_zero, List.set_cons_succ, List.setIfInBounds_toArray, List.set_set, Value.cells] at H)) | (first | (refine val_run (by simp [bin, nilc, go_sem]; (try simp (disch := omega) only [w_i64, w_u64, w_u32, w_u16, w_u8, w_i32, Int.tdiv_eq_ediv_of_nonneg, Int.tmod_eq_emod_of_nonneg]); rfl) ?_; refine onOk_in ?_) | (refine pu_run (fun w => by simp [bin, nilc, go_sem]; (try simp (disch := omega) only [w_i64, w_u64, w_u32, w_u16, w_u8, w_i32, Int.tdiv_eq_ediv_of_nonneg, Int.tmod_eq_emod_of_nonneg]); rfl) ?_; refine puR_in ?_) | (refine tk_run (fun w => by simp [bin, nilc, go_sem]; (try simp (disch := omega) only [w_i64, w_u64, w_u32, w_u16, w_u8, w_i32, Int.tdiv_eq_ediv_of_nonneg, Int.tmod_eq_emod_of_nonneg]); rfl) ?_; refine puR_in ?_)) | (refine tk_at_in ?_) | (refine ph_at ?_) | (refine ph_pure (Only.refl _ _) ?_) | (refine ph_k H (by with_reducible repeat (first | exact At.zero | apply At.succ)) ?_) | (refine tk_k (fun w => by simp [go_sem]) (by rfl) ?_) | (refine ph_pure H.only ?_) | (refine ph_pure (hpT.trans H.only (fun _ _ k => k)) ?_) | (refine tk_pld H (fun w => by simp [go_sem]) (by with_reducible repeat (first | exact At.zero | apply At.succ)) (by rfl) ?_) | (refine tk_pldB H (by with_reducible repeat (first | exact At.zero | apply At.succ)) (aggT (by kernel_rfl)) ?_) | (refine gd_true_in ?_) | (refine gd_false_in ?_) | (refine gd_true_in' ?_) | (refine gd_false_in' ?_))
      refine gd_dec (fun h3 => ?_) (fun h3 => ?_)
      · simp only [lowD_length] at h3
        exact ⟨by omega, H⟩
      · simp only [lowD_length] at h3
        have := low_pad (n := n) (j := j) (least := least) (by omega) (by omega) h1 hj
        rw [this]
        exact k _ H.only
    · have hpow : 10 ^ j ≤ n := by
        rcases Nat.lt_or_ge n (10 ^ j) with h | h
        · have := Nat.div_eq_of_lt h
          omega
        · exact h
      have := lt_nDigits hpow
      exact ⟨by omega, H⟩
/-- The table of strconv, as it is laid. -/
def Tab (w : World) : Prop := Lib.TabIs Tryd.prog w "internal/strconv.uint64pow10" .u64 Lib.pow10Tab
theorem Tab.pure {w w' : World} (h : Tab w) (hp : Pure w w') : Tab w' := by
  unfold Tab Lib.TabIs World.var? at h ⊢
  cases hg : Tryd.prog.globalNamed "internal/strconv.uint64pow10" with
  | none => rw [hg] at h; cases h
  | some g =>
    rw [hg] at h
    have h2 : (match w.heap[g]? with | some (.cells cs _ _) => some cs | _ => none) = some (Lib.pow10Tab.map fun z => Value.int .u64 z).toArray := h
    have hlt : g < w.heap.size := by
      rcases Nat.lt_or_ge g w.heap.size with hl | hl
      · exact hl
      · rw [Array.getElem?_eq_none hl] at h2
        cases h2
    show (match w'.heap[g]? with | some (.cells cs _ _) => some cs | _ => none) = _
    rw [hp.block g hlt (fun x => x)]
    exact h2
theorem pure_drewN (w : World) (k : Nat) : Pure w (w.drewN k) := by
  induction k with
  | zero => exact Only.refl _ _
  | succ k ih => exact ih.drew
theorem pure_grow {w w1 : World} (h : Pure w w1) (os : Array Obj) : Pure w (Go.Sort.grow w1 os) := by
  refine ⟨h.os, h.tape, h.output, ?_, fun k hk hn => ?_⟩
  · have := h.size
    simp [Go.Sort.grow]
    omega
  · have hk2 := Nat.lt_of_lt_of_le hk h.size
    show (w1.heap ++ os)[k]? = _
    rw [Array.getElem?_append_left hk2]
    exact h.block k hk hn
theorem itoa_ret {wb : World} {n : Nat} (ht : Tab wb) (hn : n ≤ 9000000) (k : ∀ w', Pure wb w' → K (.string ⟨⟨Lib.decDigits n⟩⟩) w') : Ret Tryd.prog 16 #[.int .i64 n] wb K := by
  refine Ret.mk Tryd.call16 ((Tryd.strconv_Itoa (n : Int) (by omega) (by omega) wb ht).mono ?_)
  rintro e w' ⟨rfl, j, os, rfl⟩
  have e : Lib.itoa (n : Int) = Lib.decDigits n := by unfold Lib.itoa; rw [if_neg (by omega)]; rfl
  rw [e]
  exact ⟨_, rfl, k _ (pure_grow (pure_drewN _ _) _)⟩
theorem repeat_ret {wb : World} {c : Nat} (hc : c ≤ 10) (k : ∀ w', Pure wb w' → K (.string ⟨⟨List.replicate c 48⟩⟩) w') : Ret Tryd.prog 17 #[.string ⟨#[48]⟩, .int .i64 c] wb K := by
  refine Ret.mk Tryd.call17 ((Tryd.strings_Repeat ⟨#[48]⟩ c wb (by omega) (by show 1 * c ≤ _; omega)).mono ?_)
  rintro e w' ⟨rfl, hb⟩
  have e : Lib.repeatL (ByteArray.mk #[48]).data.toList c = List.replicate c 48 := by
    have := Lib.repeatL_replicate 48 1 c
    simpa using this
  rw [e]
  exact ⟨_, rfl, k _ (Only.of_below hb)⟩
set_option maxHeartbeats 1000000 in
theorem digits_ret {wb : World} {n least : Nat} (ht : Tab wb) (hn : n ≤ 9000000) (h2 : least ≤ 10) (k : ∀ w', Pure wb w' → K (.string ⟨⟨padD n least⟩⟩) w') : Ret Tryd.prog 11 #[.int .i64 n, .int .i64 least] wb K := by
  have H := Hp.start (fun _ => False) wb
  apply e11
  unfold c11
  refine itoa_ret ht hn fun w1 hp => ?_
  replace H := H.pure hp
  clear hp
  have hnd := nDigits_le 6 n (Nat.lt_of_le_of_lt hn (by decide))
  have hdl := Lib.decDigits_length n
  repeat (first | ((first | refine val_box H ?_ | refine val_alloc H (fun w => by simp [go_sem]; rfl) ?_); clear H; intro B w hB hp H; clear hB hp; try simp only [List.set_cons_zero, List.set_cons_succ, List.setIfInBounds_toArray, List.set_set, Value.cells] at H) | (first | refine val_ld H (fun w => by simp [go_sem]) (by with_reducible repeat (first | exact At.zero | apply At.succ)) (by rfl) ?_ | refine rd_ld H (fun w => by simp [go_sem]) (by with_reducible repeat (first | exact At.zero | apply At.succ)) (by rfl) ?_ | refine val_ldB H (by with_reducible repeat (first | exact At.zero | apply At.succ)) (aggT (by kernel_rfl)) ?_ | refine rd_ldB H (by with_reducible repeat (first | exact At.zero | apply At.succ)) (aggT (by kernel_rfl)) ?_) | ((first | refine unt_st H (by with_reducible repeat (first | exact At.zero | apply At.succ)) (fun w => by simp [go_sem]) (by rfl) (by rfl) ?_ | refine unt_stB H (by with_reducible repeat (first | exact At.zero | apply At.succ)) (aggT (by kernel_rfl)) (by rfl) (by rfl) ?_); clear H; intro w ho H; clear ho; try simp only [List.set_cons_zero, List.set_cons_succ, List.setIfInBounds_toArray, List.set_set, Value.cells] at H) | (refine val_at_bs ?_; ((refine val_run (by simp [go_sem]; (try simp (disch := omega) only [w_i64, w_u64, w_u32, w_u16, w_u8, w_i32, Int.tdiv_eq_ediv_of_nonneg, Int.tmod_eq_emod_of_nonneg]); rfl) ?_); refine onOk_bs H ?_; clear H; intro B w hB hp H; clear hB hp; try simp only [List.set_cons_zero, List.set_cons_succ, List.setIfInBounds_toArray, List.set_set, Value.cells] at H)) | (first | (refine val_run (by simp [bin, nilc, go_sem]; (try simp (disch := omega) only [w_i64, w_u64, w_u32, w_u16, w_u8, w_i32, Int.tdiv_eq_ediv_of_nonneg, Int.tmod_eq_emod_of_nonneg]); rfl) ?_; refine onOk_in ?_) | (refine pu_run (fun w => by simp [bin, nilc, go_sem]; (try simp (disch := omega) only [w_i64, w_u64, w_u32, w_u16, w_u8, w_i32, Int.tdiv_eq_ediv_of_nonneg, Int.tmod_eq_emod_of_nonneg]); rfl) ?_; refine puR_in ?_) | (refine tk_run (fun w => by simp [bin, nilc, go_sem]; (try simp (disch := omega) only [w_i64, w_u64, w_u32, w_u16, w_u8, w_i32, Int.tdiv_eq_ediv_of_nonneg, Int.tmod_eq_emod_of_nonneg]); rfl) ?_; refine puR_in ?_)) | (refine tk_at_in ?_) | (refine ph_at ?_) | (refine ph_pure (Only.refl _ _) ?_) | (refine ph_k H (by with_reducible repeat (first | exact At.zero | apply At.succ)) ?_) | (refine tk_k (fun w => by simp [go_sem]) (by rfl) ?_) | (refine ph_pure H.only ?_) | (refine ph_pure (hpT.trans H.only (fun _ _ k => k)) ?_) | (refine tk_pld H (fun w => by simp [go_sem]) (by with_reducible repeat (first | exact At.zero | apply At.succ)) (by rfl) ?_) | (refine tk_pldB H (by with_reducible repeat (first | exact At.zero | apply At.succ)) (aggT (by kernel_rfl)) ?_) | (refine gd_true_in ?_) | (refine gd_false_in ?_) | (refine gd_true_in' ?_) | (refine gd_false_in' ?_))
  have e : max ((least : Int) - ((Lib.decDigits n).length : Int)) 0 = ((least - Lib.nDigits n : Nat) : Int) := by omega
  rw [e]
  clear e
  refine repeat_ret (by omega) fun w2 hp => ?_
  replace H := H.pure hp
  clear hp
  (first | (refine val_run (run_adds (by simp only [List.length_replicate]; omega) _) ?_; refine onOk_in ?_) | (refine pu_run (fun w => run_adds (by simp only [List.length_replicate]; omega) w) ?_; refine puR_in ?_))
  rw [pad_itoa]
  exact k _ H.only
end
end Go.Proofs.YtipeanblfjimdaaDoor
