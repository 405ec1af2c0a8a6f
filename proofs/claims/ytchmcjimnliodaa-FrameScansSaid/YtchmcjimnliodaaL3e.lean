/- complinelaw03.FrameScans: its code's conditions, the second range. -/
import Derived.Test.YtchmcjimnliodaaL3d
namespace Go.Proofs.Ytchmcjimnliodaa
open Go Go.RowKit
set_option maxRecDepth 10000
set_option linter.unusedSimpArgs false
set_option linter.unusedVariables false

section
variable {w0 w : World} {al ab : Option Addr} {capl capb n m : Nat} {xs : List RecAt} {l : List Rec} {bh : List UInt8} {seed : BitVec 32} {cut at_ : Nat} {y : UInt8}
/-- Behind the second range. -/
def T5 (w0 : World) (al ab : Option Addr) (capl capb n m : Nat) (xs : List RecAt) (l : List Rec) (bh : List UInt8) (seed : BitVec 32) (cut at_ : Nat) (y : UInt8) : Prop :=
  ∀ (w : World) (a : Option Addr) (cap : Nat) (a14 : Option Addr) (cap14 B14 B12 B7 B23 D D1 k : Nat), (∀ r ∈ l, r.d.length ≤ 100) → (chain seed l).length ≤ 2320 → w0.heap.size ≤ D → w0.heap.size ≤ D1 →
    Hp (fun _ => False) w0 w (dfr D1 :: dfr D :: LK n a14 cap14 a cap al capl B7 B12 B14 B23 l seed k) →
    c3_5 (.pointer (some ⟨B23, 0, none⟩)) (.int .i64 k) (.pointer (some ⟨B12, 0, none⟩)) (.slice a (chain seed l).length cap) (.int .u8 y.toNat) (.int .u16 at_) (.pointer (some ⟨B7, 0, none⟩)) (.pointer (some ⟨B14, 0, none⟩)) (.int .u32 seed.toNat) D1 D (LR w0) w
set_option maxHeartbeats 2000000 in
theorem t6 (hi : In3 w0 al ab capl capb n m xs l bh) (h20 : n ≤ 20) (h5 : T5 w0 al ab capl capb n m xs l bh seed cut at_ y) : T6 w0 al ab capl capb n m xs l bh seed cut at_ y := by
  intro w a cap a14 cap14 B14 B12 B7 B23 D pl c k hd100 hch hD hcl hk hp1 hp2 H
  simp only [LK] at H
  have hd1024 : ∀ r ∈ l, r.d.length ≤ 1024 := fun r hr => Nat.le_trans (hd100 r hr) (by decide)
  have hcut := scan_cut seed l hd1024 c k hk hp1 hp2
  have hcap : (chain seed l).length ≤ cap := (H.ok (.row 5 1 a (chain seed l).length cap (ub (chain seed l))) (At.mem (by with_reducible repeat (first | exact At.zero | apply At.succ))) : Row w 5 1 a (chain seed l).length cap (ub (chain seed l))).2.1
  unfold c3_6
  repeat (first | ((first | refine val_box H ?_ | refine val_alloc H (fun w => by simp [go_sem]; rfl) ?_); clear H; intro B w hB hp H; clear hB hp; try simp only [List.set_cons_zero, List.set_cons_succ, List.setIfInBounds_toArray, Value.cells] at H) | (first | refine val_ld H (fun w => by simp [go_sem]) (by with_reducible repeat (first | exact At.zero | apply At.succ)) (by rfl) ?_ | refine rd_ld H (fun w => by simp [go_sem]) (by with_reducible repeat (first | exact At.zero | apply At.succ)) (by rfl) ?_ | refine val_ldB H (by with_reducible repeat (first | exact At.zero | apply At.succ)) (aggT (by kernel_rfl)) ?_ | refine rd_ldB H (by with_reducible repeat (first | exact At.zero | apply At.succ)) (aggT (by kernel_rfl)) ?_) | ((first | refine unt_st H (by with_reducible repeat (first | exact At.zero | apply At.succ)) (fun w => by simp [go_sem]) (by rfl) (by rfl) ?_ | refine unt_stB H (by with_reducible repeat (first | exact At.zero | apply At.succ)) (aggT (by kernel_rfl)) (by rfl) (by rfl) ?_); clear H; intro w ho H; clear ho; try simp only [List.set_cons_zero, List.set_cons_succ, List.setIfInBounds_toArray, Value.cells] at H) | (refine val_at_bs ?_; ((refine val_run (by simp [go_sem]; (try simp (disch := omega) only [w_i64, w_u64, w_u32, w_u16, w_u8, w_i32]); rfl) ?_); refine onOk_bs H ?_; clear H; intro B w hB hp H; clear hB hp; try simp only [List.set_cons_zero, List.set_cons_succ, List.setIfInBounds_toArray, Value.cells] at H)) | (first | (refine val_run (by simp [bin, nilc, go_sem]; (try simp (disch := omega) only [w_i64, w_u64, w_u32, w_u16, w_u8, w_i32]); rfl) ?_; refine onOk_in ?_) | (refine pu_run (fun w => by simp [bin, nilc, go_sem]; (try simp (disch := omega) only [w_i64, w_u64, w_u32, w_u16, w_u8, w_i32]); rfl) ?_; refine puR_in ?_)) | (refine tk_at_in ?_) | (refine ph_at ?_) | (refine ph_pure H.only ?_) | (refine ph_pure (hpT.trans H.only (fun _ _ k => k)) ?_) | (refine tk_pld H (fun w => by simp [go_sem]) (by with_reducible repeat (first | exact At.zero | apply At.succ)) (by rfl) ?_) | (refine tk_pldB H (by with_reducible repeat (first | exact At.zero | apply At.succ)) (aggT (by kernel_rfl)) ?_) | (refine gd_true_in ?_) | (refine gd_false_in ?_) | (refine gd_true_in' ?_) | (refine gd_false_in' ?_))
  (first | (refine val_run (run_sliceTo el24 (show c ≤ cap by omega) _) ?_; refine onOk_in ?_) | (refine pu_run (fun w => run_sliceTo el24 (show c ≤ cap by omega) w) ?_; refine puR_in ?_))
  have hrow : Row w 5 1 a (chain seed l).length cap (ub (chain seed l)) := H.ok (.row 5 1 a (chain seed l).length cap (ub (chain seed l))) (At.mem (by with_reducible repeat (first | exact At.zero | apply At.succ)))
  have hlt : Lies w a (ub ((chain seed l).take c)) := by rw [ub_take]; exact hrow.lies.take c
  clear hrow
  refine scan_ret seed ((chain seed l).take c) (by rw [List.length_take]; omega) hlt (by omega) fun w1 S1 S2 a6 cap6 hp hok hfr => ?_
  replace H := H.fresh hp hok hfr
  clear hp hok hfr hlt
  obtain ⟨A, hA⟩ : ∃ A, A = (chain seed l).take c := ⟨_, rfl⟩
  have hAs : A.length ≤ 2320 := by rw [hA, List.length_take]; omega
  rw [← hA] at H hcut
  have hz0 := H.only.size
  have hbel := H.below
  have hsl : (scanI seed A S1 S2 a6 cap6).low w1.heap.size := fun k hk => hbel _ (List.mem_cons_self ..) k hk
  have hdl : (dfr D).low w1.heap.size := fun k hk => hbel _ (List.mem_cons_of_mem _ (List.mem_cons_self ..)) k hk
  refine rng_in H rfl Try.call62 scanEncs (scanPin seed A w1.heap.size) (fun xs => xs.map ScanIt.strip = (scan seed 0 A).1) (fun pre => pre.map ScanIt.strip <+: (scan seed 0 A).1) (fun _ => rfl) (fun W hok hz => scan_seq seed A w1.heap.size hok hz (by omega))
    (fun pre L => L = dfr D :: LK n a14 cap14 a cap al capl B7 B12 B14 B23 l seed pre.length ∧ pre.length ≤ A.length) (fun _ _ _ => False) ⟨rfl, by simp⟩ ?_ (fun _ _ _ h => h.elim) ?_ ?_ (fun _ _ _ _ _ _ h => h.elim)
  · rintro pre L ⟨rfl, _⟩
    simp only [LK]
    exact (by repeat (first | exact fun _ hh => absurd hh List.not_mem_nil | (refine List.forall_mem_cons.2 ⟨(by first | exact hdl | exact trivial), ?_⟩)))
  · rintro pre x W L ⟨rfl, hpl⟩ HW hz ⟨hrow, hfr, hpre, hx1024⟩
    have hpl1 : pre.length + 1 ≤ A.length := by
      have h1 := hpre.length_le
      have h4 := scan_count3 seed 0 A
      simp at h1
      omega
    simp only [LK] at HW
    delta scanEncs
    simp only [app]
    have H := Hp.start (fun _ => False) W
    refine asn_in HW H hz0 (by (try simp only [List.cons_append, List.nil_append]); repeat (first | exact fun _ hh => absurd hh List.not_mem_nil | (refine List.forall_mem_cons.2 ⟨(by first | exact hsl | exact hdl | exact trivial), ?_⟩))) fun W2 H2 hz2 hT => ?_
    replace H2 := H2.perm (L' := scanI seed A S1 S2 a6 cap6 :: dfr D :: LK n a14 cap14 a cap al capl B7 B12 B14 B23 l seed pre.length) (List.Perm.refl _)
    have H := H2.round (base := w1.heap.size) (by repeat (first | exact fun _ hh => absurd hh List.not_mem_nil | (refine List.forall_mem_cons.2 ⟨(by first | exact hdl | exact trivial), ?_⟩)))
    repeat (first | ((first | refine val_box H ?_ | refine val_alloc H (fun w => by simp [go_sem]; rfl) ?_); clear H; intro B w hB hp H; clear hB hp; try simp only [List.set_cons_zero, List.set_cons_succ, List.setIfInBounds_toArray, Value.cells] at H) | (first | refine val_ld H (fun w => by simp [go_sem]) (by with_reducible repeat (first | exact At.zero | apply At.succ)) (by rfl) ?_ | refine rd_ld H (fun w => by simp [go_sem]) (by with_reducible repeat (first | exact At.zero | apply At.succ)) (by rfl) ?_ | refine val_ldB H (by with_reducible repeat (first | exact At.zero | apply At.succ)) (aggT (by kernel_rfl)) ?_ | refine rd_ldB H (by with_reducible repeat (first | exact At.zero | apply At.succ)) (aggT (by kernel_rfl)) ?_) | ((first | refine unt_st H (by with_reducible repeat (first | exact At.zero | apply At.succ)) (fun w => by simp [go_sem]) (by rfl) (by rfl) ?_ | refine unt_stB H (by with_reducible repeat (first | exact At.zero | apply At.succ)) (aggT (by kernel_rfl)) (by rfl) (by rfl) ?_); clear H; intro w ho H; clear ho; try simp only [List.set_cons_zero, List.set_cons_succ, List.setIfInBounds_toArray, Value.cells] at H) | (refine val_at_bs ?_; ((refine val_run (by simp [go_sem]; (try simp (disch := omega) only [w_i64, w_u64, w_u32, w_u16, w_u8, w_i32]); rfl) ?_); refine onOk_bs H ?_; clear H; intro B w hB hp H; clear hB hp; try simp only [List.set_cons_zero, List.set_cons_succ, List.setIfInBounds_toArray, Value.cells] at H)) | (first | (refine val_run (by simp [bin, nilc, go_sem]; (try simp (disch := omega) only [w_i64, w_u64, w_u32, w_u16, w_u8, w_i32]); rfl) ?_; refine onOk_in ?_) | (refine pu_run (fun w => by simp [bin, nilc, go_sem]; (try simp (disch := omega) only [w_i64, w_u64, w_u32, w_u16, w_u8, w_i32]); rfl) ?_; refine puR_in ?_)) | (refine tk_at_in ?_) | (refine ph_at ?_) | (refine ph_pure H.only ?_) | (refine ph_pure (hpT.trans H.only (fun _ _ k => k)) ?_) | (refine tk_pld H (fun w => by simp [go_sem]) (by with_reducible repeat (first | exact At.zero | apply At.succ)) (by rfl) ?_) | (refine tk_pldB H (by with_reducible repeat (first | exact At.zero | apply At.succ)) (aggT (by kernel_rfl)) ?_) | (refine gd_true_in ?_) | (refine gd_false_in ?_) | (refine gd_true_in' ?_) | (refine gd_false_in' ?_))
    have ec : ((pre.length : Int) + 1) = ((pre.length + 1 : Nat) : Int) := by omega
    rw [ec] at H
    exact round_normal H2 H hz2 hz (fun q hq => by have := hsl q hq; exact hT q this (by omega)) (L3 := dfr D :: LK n a14 cap14 a cap al capl B7 B12 B14 B23 l seed (pre.length + 1)) (by (try simp only [List.cons_append, List.nil_append]); with_reducible repeat (first | exact List.Sublist.slnil | apply List.Sublist.cons_cons | apply List.Sublist.cons)) ⟨by simp, by simp; omega⟩
  · rintro D1 xs' W L hS ⟨rfl, _⟩ HD hD1
    have hlen : xs'.length = k := by rw [← hcut, ← hS]; simp
    rw [hlen] at HD
    exact h5 W a cap a14 cap14 B14 B12 B7 B23 D D1 k hd100 hch hD (Nat.le_trans hz0 hD1) (HD.drop (by (try simp only [List.cons_append, List.nil_append]); with_reducible repeat (first | exact List.Sublist.slnil | apply List.Sublist.cons_cons | apply List.Sublist.cons)))
end
end Go.Proofs.Ytchmcjimnliodaa
