/- The reader of octet: what each of its functions leaves. -/
import Derived.Test.YtchmcjimnliodaaOctW
import Derived.BigQuiet
import Derived.Deep.QuietTactic
namespace Go.Proofs.Ytchmcjimnliodaa
open Go.RowKit
set_option maxRecDepth 100000

/-- Block `B` is a reader in the state `s`, its bytes in the block `r`. -/
def Rd (w : World) (B : Nat) (r : Option Nat) (s : Rs) : Prop :=
  ∃ a cap, Blk w B #[.slice a s.b.length cap, .int .i64 s.e] 187 ∧ Lies w a (ub s.b) ∧ s.b.length ≤ cap ∧ cap ≤ maxLen ∧ ablk a = r ∧ r ≠ some B ∧ s.b.length ≤ 1099511627776
structure RdTo (w w' : World) (B : Nat) (r : Option Nat) (s : Rs) : Prop where
  now : ∃ r', Rd w' B r' s ∧ (r' = r ∨ r' = none)
  only : Only (fun k => k = B) w w'
theorem Rd.lt {w : World} {B : Nat} {r : Option Nat} {s : Rs} (h : Rd w B r s) : B < w.heap.size := by
  obtain ⟨a, cap, hb, _⟩ := h; exact hb.lt
theorem Rd.self {w : World} {B : Nat} {r : Option Nat} {s : Rs} (h : Rd w B r s) : RdTo w w B r s := ⟨⟨r, h, .inl rfl⟩, Only.refl _ _⟩
theorem Rd.only {S : Nat → Prop} {w w' : World} {B : Nat} {r : Option Nat} {s : Rs} (h : Rd w B r s) (ho : Only S w w') (hB : ¬ S B) (hr : ∀ k, r = some k → ¬ S k) : Rd w' B r s := by
  obtain ⟨a, cap, hb, hl, h1, h2, rfl, h3⟩ := h
  exact ⟨a, cap, hb.only ho hB, hl.only ho hr, h1, h2, rfl, h3⟩
theorem RdTo.trans {w w1 w2 : World} {B : Nat} {r r1 : Option Nat} {s1 s2 : Rs} (h : RdTo w w1 B r s1) (hr : r1 = r ∨ r1 = none) (k : RdTo w1 w2 B r1 s2) : RdTo w w2 B r s2 := by
  obtain ⟨⟨r2, h2, hr2⟩, ho2⟩ := k
  refine ⟨⟨r2, h2, ?_⟩, h.only.trans ho2 (fun _ _ h => h)⟩
  rcases hr2 with rfl | rfl
  · exact hr
  · exact .inr rfl

section
variable {B : Nat} {r : Option Nat} {s : Rs} {w : World}
theorem err_any (hr : Rd w B r s) : Calls Try.prog 75 #[.pointer (some ⟨B, 0, none⟩)] w fun e w' => e = .returned (.int .i64 s.e) ∧ w = w' := by
  obtain ⟨a, cap, hb, _⟩ := hr
  have hc := hb.cell (i := 1) rfl
  go_enter Try.func75, Try.ntmps75
  go_wp2
  go_ret
  exact ⟨rfl, rfl⟩
theorem fail_any (k : Int) (hr : Rd w B r s) : Calls Try.prog 119 #[.pointer (some ⟨B, 0, none⟩), .int .i64 k] w fun e w' => e = .returned (.tuple #[]) ∧ RdTo w w' B r (s.fail k) := by
  have hself := hr.self
  have hr0 := hr
  obtain ⟨a, cap, hb, hl, h1, h2, h3, h4, h5⟩ := hr
  have hc := hb.cell (i := 0) rfl
  have hc1 := hb.cell (i := 1) rfl
  have hf := hb.frozen 0
  have hf1 := hb.frozen 1
  have H3 := Lib.hid h3
  clear h3
  by_cases he : s.e = 0
  · have he' : (s.e == 0) = true := by simp [he]
    have Hfin : Hid (s.fail k = ⟨[], k⟩) := by rw [Rs.fail, if_pos he]; rfl
    clear he
    go_enter Try.func119, Try.ntmps119
    go_wp2_with fail
    refine (err_any hr0).mono ?_
    rintro e w' ⟨rfl, rfl⟩
    go_wp2
    go_end0
    refine ⟨rfl, ?_⟩
    rw [Hfin.out]
    have hb2 := (hb.set 1 (.int .i64 k)).set 0 (.slice none 0 0)
    exact ⟨⟨none, ⟨none, 0, hb2, Lies.nil _ _, Nat.le_refl _, Nat.zero_le _, rfl, by simp, by simp⟩, .inr rfl⟩, ((Only.refl (fun k => k = B) _).setCell (fun _ => rfl) _).setCell (fun _ => rfl) _⟩
  · have he' : (s.e == 0) = false := by simp [he]
    have Hfin : Hid (s.fail k = s) := by rw [Rs.fail, if_neg he]; rfl
    clear he
    go_enter Try.func119, Try.ntmps119
    go_wp2_with fail
    refine (err_any hr0).mono ?_
    rintro e w' ⟨rfl, rfl⟩
    go_wp2
    go_end0
    refine ⟨rfl, ?_⟩
    rw [Hfin.out]
    exact hself
theorem Rd.move {a' : Option Addr} {cap' n : Nat} {v : Value} {t : List UInt8} (hb : Blk w B #[v, .int .i64 0] 187) (hl : Lies w a' (ub t)) (h1 : t.length ≤ cap') (h2 : cap' ≤ maxLen) (h3 : ablk a' = r) (h4 : r ≠ some B)
    (h5 : t.length ≤ 1099511627776) (hn : n = t.length) : RdTo w (w.setCell ⟨B, 0, none⟩ (.slice a' n cap')) B r ⟨t, 0⟩ := by
  subst hn
  exact ⟨⟨r, ⟨a', cap', hb.set 0 _, hl.setCell (by rw [h3]; exact h4) _, h1, h2, h3, h4, h5⟩, .inl rfl⟩, (Only.refl (fun k => k = B) _).setCell (fun _ => rfl) _⟩
theorem one_any (hr : Rd w B r s) : Calls Try.prog 118 #[.pointer (some ⟨B, 0, none⟩)] w fun e w' => e = .returned (.int .u8 s.one.1) ∧ RdTo w w' B r s.one.2 := by
  have hself := hr.self
  have hr0 := hr
  obtain ⟨bs, er⟩ := s
  obtain ⟨a, cap, hb, hl, h1, h2, h3, h4, h5⟩ := hr
  have hc := hb.cell (i := 0) rfl
  have hc1 := hb.cell (i := 1) rfl
  have hf := hb.frozen 0
  have H3 := Lib.hid h3
  clear h3
  simp only at hc hc1 h1 h5
  by_cases he : er = 0
  · subst he
    cases bs with
    | nil =>
      go_enter Try.func118, Try.ntmps118
      go_wp2_with fail
      refine (err_any hr0).mono ?_
      rintro e w' ⟨rfl, rfl⟩
      go_wp2_with fail
      refine (fail_any 4 hr0).mono ?_
      rintro e w1 ⟨rfl, hto⟩
      obtain ⟨⟨r1, hr1, hr1'⟩, ho1⟩ := id hto
      go_wp2_with fail
      refine (err_any hr1).mono ?_
      rintro e w' ⟨rfl, rfl⟩
      go_wp2_with fail
      go_ret
      exact ⟨rfl, hto⟩
    | cons c t =>
      have hcap0 : 1 ≤ cap := by simp at h1; omega
      have hl0 : ((t.length : Int) + 1 == 0) = false := by
        rw [beq_eq_false_iff_ne]; omega
      have hld := hl.drop 1
      rw [← ub_drop] at hld
      obtain ⟨b, o, rfl, hbl, hcell⟩ := hl.addr (by simp [ub])
      have hc00 : w.cell? ⟨b, o, none⟩ = some (.int .u8 c.toNat) := hcell 0 _ rfl
      simp only [List.length_cons] at hc h1 h5
      clear hcell hl
      go_enter Try.func118, Try.ntmps118
      go_wp2_with fail
      refine (err_any hr0).mono ?_
      rintro e w' ⟨rfl, rfl⟩
      go_wp2_with fail
      refine (err_any hr0).mono ?_
      rintro e w' ⟨rfl, rfl⟩
      go_wp2_with fail
      · have ht : t = [] := by
          cases t with
          | nil => rfl
          | cons _ _ => have : cap = 1 := by assumption
                        simp at h1; omega
        go_ret
        subst ht
        refine ⟨rfl, Rd.move hb (Lies.nil _ _) (by simp) (Nat.le_trans (by omega) h2) H3.out h4 (by simp) (by simp)⟩
      · go_ret
        refine ⟨rfl, Rd.move hb (by simpa [Addr.add] using hld) (by omega) (Nat.le_trans (by omega) h2) H3.out h4 (by omega) (by simp)⟩
  · have he0 : (er == 0) = false := by simp [he]
    have he1 : (er != 0) = true := by simp [he]
    have Hfin : Hid (Rs.one ⟨bs, er⟩ = (0, ⟨bs, er⟩)) := by rw [Rs.one, if_neg he]; rfl
    clear he
    go_enter Try.func118, Try.ntmps118
    go_wp2_with fail
    refine (err_any hr0).mono ?_
    rintro e w' ⟨rfl, rfl⟩
    go_wp2_with fail
    refine (err_any hr0).mono ?_
    rintro e w' ⟨rfl, rfl⟩
    go_wp2_with fail
    go_ret
    rw [Hfin.out]
    exact ⟨rfl, hself⟩
theorem numBad_eq (sh : Nat) (c : UInt8) : numBad sh c = decide (63 < sh ∨ (sh = 63 ∧ 1 < c.toNat) ∨ (c.toNat = 0 ∧ 0 < sh)) := by
  unfold numBad; rw [Bool.eq_iff_iff]; simp [Bool.or_eq_true, or_assoc]
/-- What a round of Num ends in. -/
theorem dec_bad {sh x : Nat} {c : UInt8} {t : List UInt8} (h : numBad sh c = true) : dec sh x (c :: t) = (0, ⟨[], 2⟩) := by rw [dec, if_pos h]
theorem dec_ret {sh x : Nat} {c : UInt8} {t : List UInt8} (h : numBad sh c = false) (h1 : c.toNat < 128) : dec sh x (c :: t) = (x + c.toNat % 128 * 2 ^ sh, ⟨t, 0⟩) := by
  rw [dec, if_neg (by simp [h]), if_pos h1, Nat.mod_eq_of_lt h1]
theorem dec_go {sh x : Nat} {c : UInt8} {t : List UInt8} (h : numBad sh c = false) (h1 : 128 ≤ c.toNat) : dec sh x (c :: t) = dec (sh + 7) (x + c.toNat % 128 * 2 ^ sh) t := by
  have := c.toNat_lt
  rw [dec, if_neg (by simp [h]), if_neg (by omega)]
  rw [show c.toNat % 128 = c.toNat - 128 by omega]
set_option maxHeartbeats 1000000 in
theorem rnum_any (hr : Rd w B r s) : Calls Try.prog 74 #[.pointer (some ⟨B, 0, none⟩)] w fun e w' => e = .returned (.int .u64 s.num.1) ∧ RdTo w w' B r s.num.2 := by
  have hself := hr.self
  have hr0 := hr
  obtain ⟨bs, er⟩ := s
  by_cases he : er = 0
  · subst he
    have Hfin : Hid (Rs.num ⟨bs, 0⟩ = dec 0 0 bs) := rfl
    rw [Hfin.out]
    clear hr Hfin hr0
    go_enter Try.func74, Try.ntmps74
    go_wp2
    go_loopw [3, 4] (fun x sh wr => ∃ (k y : Nat) (t : List UInt8), k ≤ 9 ∧ sh = .int .i64 (7 * k : Nat) ∧ x = .int .u64 y ∧ y < 2 ^ (7 * k) ∧ dec (7 * k) y t = dec 0 0 bs ∧ RdTo w wr B r ⟨t, 0⟩) (fun _ sh _ => 70 - (intOf sh).toNat)
    case atStart => exact ⟨0, 0, bs, by omega, rfl, rfl, by simp, rfl, hself⟩
    case round =>
      obtain ⟨k, y, t, hk, rfl, rfl, hy, hdec, hto⟩ := hrel
      have Hy := Lib.hid hy
      have Hdec := Lib.hid hdec
      clear hy hdec
      obtain ⟨⟨r1, hr1, hr1'⟩, ho1⟩ := id hto
      go_wp2_with fail
      refine (err_any hr1).mono ?_
      rintro e w' ⟨rfl, rfl⟩
      go_wp2_with fail
      cases t with
      | nil =>
        refine (one_any hr1).mono ?_
        rintro e w2 ⟨rfl, hto2⟩
        obtain ⟨⟨r2, hr2, hr2'⟩, ho2⟩ := id hto2
        go_wp2_with fail
        refine (err_any hr2).mono ?_
        rintro e w' ⟨rfl, rfl⟩
        go_wp2_with fail
        go_ret
        rw [← Hdec.out]
        exact ⟨rfl, hto.trans hr1' hto2⟩
      | cons c t =>
        obtain ⟨z, hz⟩ : ∃ z : Nat, z = c.toNat := ⟨_, rfl⟩
        have hz256 : z < 256 := by have := c.toNat_lt; omega
        refine ((one_any hr1).mono (R' := fun e w' => e = .returned (.int .u8 (z : Nat)) ∧ RdTo wr w' B r1 ⟨t, 0⟩) (fun e w' h => by rw [hz]; exact h)).mono ?_
        have Hz := Lib.hid hz
        clear hz
        rintro e w2 ⟨rfl, hto2⟩
        obtain ⟨⟨r2, hr2, hr2'⟩, ho2⟩ := id hto2
        have htoo := hto.trans hr1' hto2
        have hr2r : r2 = r ∨ r2 = none := by
          rcases hr2' with rfl | rfl
          · exact hr1'
          · exact .inr rfl
        go_wp2_with fail
        refine (err_any hr2).mono ?_
        rintro e w' ⟨rfl, rfl⟩
        rcases (by omega : (9 ≤ k ∧ 2 ≤ z) ∨ (9 ≤ k ∧ z ≤ 0) ∨ (9 ≤ k ∧ 1 ≤ z ∧ z ≤ 1) ∨ (1 ≤ k ∧ k ≤ 8 ∧ z ≤ 0) ∨ (1 ≤ k ∧ k ≤ 8 ∧ 1 ≤ z ∧ z ≤ 127) ∨ (1 ≤ k ∧ k ≤ 8 ∧ 128 ≤ z) ∨ (k ≤ 0 ∧ z ≤ 0) ∨ (k ≤ 0 ∧ 1 ≤ z ∧ z ≤ 127) ∨ (k ≤ 0 ∧ 128 ≤ z)) with ⟨g1, g2⟩ | ⟨g1, g2⟩ | ⟨g1, g2, g3⟩ | ⟨g1, g2, g3⟩ | ⟨g1, g2, g3, g4⟩ | ⟨g1, g2, g3⟩ | ⟨g1, g2⟩ | ⟨g1, g2, g3⟩ | ⟨g1, g2⟩
        · have f1 : ((7 * (k : Int)) == 63) = true := by rw [beq_iff_eq]; omega
          have f2 : ((z : Int) == 0) = false := by rw [beq_eq_false_iff_ne]; omega
          have Hb : Hid (numBad (7 * k) c = true) := by
            have := Hz.out
            show numBad (7 * k) c = true
            rw [numBad_eq, decide_eq_true_eq]; omega
          go_wp2_with fail
          refine (fail_any 2 hr2).mono ?_
          rintro e w3 ⟨rfl, hto3⟩
          go_wp2_with fail
          go_ret
          rw [← Hdec.out, dec_bad Hb.out]
          exact ⟨rfl, htoo.trans hr2r hto3⟩
        · have f1 : ((7 * (k : Int)) == 63) = true := by rw [beq_iff_eq]; omega
          have f2 : ((z : Int) == 0) = true := by rw [beq_iff_eq]; omega
          have Hb : Hid (numBad (7 * k) c = true) := by
            have := Hz.out
            show numBad (7 * k) c = true
            rw [numBad_eq, decide_eq_true_eq]; omega
          go_wp2_with fail
          refine (fail_any 2 hr2).mono ?_
          rintro e w3 ⟨rfl, hto3⟩
          go_wp2_with fail
          go_ret
          rw [← Hdec.out, dec_bad Hb.out]
          exact ⟨rfl, htoo.trans hr2r hto3⟩
        · have f1 : ((7 * (k : Int)) == 63) = true := by rw [beq_iff_eq]; omega
          have f2 : ((z : Int) == 0) = false := by rw [beq_eq_false_iff_ne]; omega
          have Hb : Hid (numBad (7 * k) c = false) := by
            have := Hz.out
            show numBad (7 * k) c = false
            rw [numBad_eq, decide_eq_false_iff_not]; omega
          have Hv := Lib.hid (num_val (k := k) (z := z) Hy.out hz256 hk (by omega))
          go_wp2_with fail
          go_ret
          rw [← Hdec.out, dec_ret Hb.out (by rw [← Hz.out]; omega), ← Hz.out, ← Hv.out]
          exact ⟨rfl, htoo⟩
        · have f1 : ((7 * (k : Int)) == 63) = false := by rw [beq_eq_false_iff_ne]; omega
          have f2 : ((z : Int) == 0) = true := by rw [beq_iff_eq]; omega
          have Hb : Hid (numBad (7 * k) c = true) := by
            have := Hz.out
            show numBad (7 * k) c = true
            rw [numBad_eq, decide_eq_true_eq]; omega
          go_wp2_with fail
          refine (fail_any 2 hr2).mono ?_
          rintro e w3 ⟨rfl, hto3⟩
          go_wp2_with fail
          go_ret
          rw [← Hdec.out, dec_bad Hb.out]
          exact ⟨rfl, htoo.trans hr2r hto3⟩
        · have f1 : ((7 * (k : Int)) == 63) = false := by rw [beq_eq_false_iff_ne]; omega
          have f2 : ((z : Int) == 0) = false := by rw [beq_eq_false_iff_ne]; omega
          have Hb : Hid (numBad (7 * k) c = false) := by
            have := Hz.out
            show numBad (7 * k) c = false
            rw [numBad_eq, decide_eq_false_iff_not]; omega
          have Hv := Lib.hid (num_val (k := k) (z := z) Hy.out hz256 hk (by omega))
          go_wp2_with fail
          go_ret
          rw [← Hdec.out, dec_ret Hb.out (by rw [← Hz.out]; omega), ← Hz.out, ← Hv.out]
          exact ⟨rfl, htoo⟩
        · have f1 : ((7 * (k : Int)) == 63) = false := by rw [beq_eq_false_iff_ne]; omega
          have f2 : ((z : Int) == 0) = false := by rw [beq_eq_false_iff_ne]; omega
          have Hb : Hid (numBad (7 * k) c = false) := by
            have := Hz.out
            show numBad (7 * k) c = false
            rw [numBad_eq, decide_eq_false_iff_not]; omega
          have Hv := Lib.hid (num_val (k := k) (z := z) Hy.out hz256 hk (by omega))
          go_wp2_with fail
          go_roundw
          case rel =>
            refine ⟨k + 1, y + z % 128 * 2 ^ (7 * k), t, by omega, by go_num, by rw [← Hv.out], num_val_lt Hy.out, ?_, htoo⟩
            rw [← Hdec.out, dec_go Hb.out (by rw [← Hz.out]; omega), ← Hz.out]
            rfl
          case measure => simp [intOf]; omega
        · have f1 : ((7 * (k : Int)) == 63) = false := by rw [beq_eq_false_iff_ne]; omega
          have f2 : ((z : Int) == 0) = true := by rw [beq_iff_eq]; omega
          have Hb : Hid (numBad (7 * k) c = false) := by
            have := Hz.out
            show numBad (7 * k) c = false
            rw [numBad_eq, decide_eq_false_iff_not]; omega
          have Hv := Lib.hid (num_val (k := k) (z := z) Hy.out hz256 hk (by omega))
          go_wp2_with fail
          go_ret
          rw [← Hdec.out, dec_ret Hb.out (by rw [← Hz.out]; omega), ← Hz.out, ← Hv.out]
          exact ⟨rfl, htoo⟩
        · have f1 : ((7 * (k : Int)) == 63) = false := by rw [beq_eq_false_iff_ne]; omega
          have f2 : ((z : Int) == 0) = false := by rw [beq_eq_false_iff_ne]; omega
          have Hb : Hid (numBad (7 * k) c = false) := by
            have := Hz.out
            show numBad (7 * k) c = false
            rw [numBad_eq, decide_eq_false_iff_not]; omega
          have Hv := Lib.hid (num_val (k := k) (z := z) Hy.out hz256 hk (by omega))
          go_wp2_with fail
          go_ret
          rw [← Hdec.out, dec_ret Hb.out (by rw [← Hz.out]; omega), ← Hz.out, ← Hv.out]
          exact ⟨rfl, htoo⟩
        · have f1 : ((7 * (k : Int)) == 63) = false := by rw [beq_eq_false_iff_ne]; omega
          have f2 : ((z : Int) == 0) = false := by rw [beq_eq_false_iff_ne]; omega
          have Hb : Hid (numBad (7 * k) c = false) := by
            have := Hz.out
            show numBad (7 * k) c = false
            rw [numBad_eq, decide_eq_false_iff_not]; omega
          have Hv := Lib.hid (num_val (k := k) (z := z) Hy.out hz256 hk (by omega))
          go_wp2_with fail
          go_roundw
          case rel =>
            refine ⟨k + 1, y + z % 128 * 2 ^ (7 * k), t, by omega, by go_num, by rw [← Hv.out], num_val_lt Hy.out, ?_, htoo⟩
            rw [← Hdec.out, dec_go Hb.out (by rw [← Hz.out]; omega), ← Hz.out]
            rfl
          case measure => simp [intOf]; omega
  · have he0 : (er == 0) = false := by simp [he]
    have he1 : (er != 0) = true := by simp [he]
    have Hfin : Hid (Rs.num ⟨bs, er⟩ = (0, ⟨bs, er⟩)) := by rw [Rs.num, if_neg he]; rfl
    clear he
    go_enter Try.func74, Try.ntmps74
    go_wp2
    refine wp_loop_rounds 1 ?_
    rw [rounds_succ]
    go_wp2_with fail
    refine (err_any hr0).mono ?_
    rintro e w' ⟨rfl, rfl⟩
    go_wp2_with fail
    go_ret
    rw [Hfin.out]
    exact ⟨rfl, hself⟩
theorem dec_lt (bs : List UInt8) : ∀ (k y : Nat), k ≤ 9 → y < 2 ^ (7 * k) → (dec (7 * k) y bs).1 < 18446744073709551616 := by
  induction bs with
  | nil => intro k y _ _; simp [dec]
  | cons c t ih =>
    intro k y hk hy
    by_cases hb : numBad (7 * k) c = true
    · rw [dec_bad hb]; simp
    · have hb' : numBad (7 * k) c = false := by simpa using hb
      have hb2 := hb'
      rw [numBad_eq, decide_eq_false_iff_not] at hb2
      have hc := c.toNat_lt
      have hv := num_val (y := y) (z := c.toNat) hy hc hk (fun h => by subst h; omega)
      have hlt : y + c.toNat % 128 * 2 ^ (7 * k) < 18446744073709551616 := by
        rcases Nat.lt_or_ge k 9 with h | h
        · exact Nat.lt_of_lt_of_le (num_val_lt hy) (Nat.pow_le_pow_right (n := 2) (by omega) (show 7 * (k + 1) ≤ 64 by omega))
        · obtain rfl : k = 9 := by omega
          have : c.toNat % 128 * 2 ^ (7 * 9) ≤ 1 * 2 ^ 63 := Nat.mul_le_mul (by omega) (Nat.le_refl _)
          have hy' : y < 2 ^ 63 := hy
          omega
      rcases Nat.lt_or_ge c.toNat 128 with h1 | h1
      · rw [dec_ret hb' h1]; exact hlt
      · rw [dec_go hb' h1]
        refine ih (k + 1) _ ?_ (num_val_lt hy)
        rcases Nat.lt_or_ge k 9 with h | h
        · omega
        · obtain rfl : k = 9 := by omega
          omega
theorem Rs.num_lt (s : Rs) : s.num.1 < 18446744073709551616 := by
  unfold Rs.num; split
  · exact dec_lt s.b 0 0 (by omega) (by simp)
  · simp
set_option maxHeartbeats 400000 in
theorem count_any (most : Int) (hm : 0 ≤ most) (hm2 : most ≤ 1099511627776) (hr : Rd w B r s) :
    Calls Try.prog 105 #[.pointer (some ⟨B, 0, none⟩), .int .i64 most] w fun e w' => e = .returned (.int .i64 (s.count most).1) ∧ RdTo w w' B r (s.count most).2 := by
  have hlt := s.num_lt
  obtain ⟨n, hn⟩ : ∃ n, n = s.num.1 := ⟨_, rfl⟩
  have Hn := Lib.hid hn
  rw [← hn] at hlt
  have Hlt := Lib.hid hlt
  clear hlt hn
  have Hm : Hid (max most 0 = most) := by show max most 0 = most; omega
  by_cases h : most < (n : Int)
  · have Hc : Hid (s.count most = (0, s.num.2.fail 15)) := by
      have := Hn.out; have := Hm.out
      show s.count most = _
      unfold Rs.count; rw [if_pos (by omega)]
    go_enter Try.func105, Try.ntmps105
    go_wp2_with fail
    refine ((rnum_any hr).mono (R' := fun e w' => e = .returned (.int .u64 (n : Nat)) ∧ RdTo w w' B r s.num.2) (fun e w' h => by rw [Hn.out]; exact h)).mono ?_
    rintro e w1 ⟨rfl, hto⟩
    obtain ⟨⟨r1, hr1, hr1'⟩, ho1⟩ := id hto
    go_wp2_with fail
    refine (fail_any 15 hr1).mono ?_
    rintro e w2 ⟨rfl, hto2⟩
    go_wp2_with fail
    go_ret
    rw [Hc.out]
    exact ⟨rfl, hto.trans hr1' hto2⟩
  · have Hc : Hid (s.count most = s.num) := by
      have := Hn.out; have := Hm.out
      show s.count most = _
      unfold Rs.count; rw [if_neg (by omega)]
    have h' : (n : Int) ≤ most := by omega
    have Hw : Hid (IntKind.i64.wrap (n : Int) = n) := by show IntKind.i64.wrap (n : Int) = n; rw [IntKind.wrap_i64]; omega
    clear h
    go_enter Try.func105, Try.ntmps105
    go_wp2_with fail
    refine ((rnum_any hr).mono (R' := fun e w' => e = .returned (.int .u64 (n : Nat)) ∧ RdTo w w' B r s.num.2) (fun e w' h => by rw [Hn.out]; exact h)).mono ?_
    rintro e w1 ⟨rfl, hto⟩
    obtain ⟨⟨r1, hr1, hr1'⟩, ho1⟩ := id hto
    go_wp2_with fail
    go_ret
    rw [Hc.out, ← Hn.out]
    exact ⟨rfl, hto⟩
theorem left_any (hr : Rd w B r s) : Calls Try.prog 106 #[.pointer (some ⟨B, 0, none⟩)] w fun e w' => e = .returned (.int .i64 s.left) ∧ w = w' := by
  have hr0 := hr
  obtain ⟨bs, er⟩ := s
  obtain ⟨a, cap, hb, hl, h1, h2, h3, h4, h5⟩ := hr
  have hc := hb.cell (i := 0) rfl
  simp only at hc
  clear h3
  by_cases he : er = 0
  · have he1 : (er != 0) = false := by simp [he]
    have Hf : Hid (Rs.left ⟨bs, er⟩ = bs.length) := by show Rs.left ⟨bs, er⟩ = bs.length; simp [Rs.left, he]
    clear he
    go_enter Try.func106, Try.ntmps106
    go_wp2_with fail
    refine (err_any hr0).mono ?_
    rintro e w' ⟨rfl, rfl⟩
    go_wp2_with fail
    go_ret
    rw [Hf.out]
    exact ⟨rfl, rfl⟩
  · have he1 : (er != 0) = true := by simp [he]
    have Hf : Hid (Rs.left ⟨bs, er⟩ = 0) := by show Rs.left ⟨bs, er⟩ = 0; simp [Rs.left, he]
    clear he
    go_enter Try.func106, Try.ntmps106
    go_wp2_with fail
    refine (err_any hr0).mono ?_
    rintro e w' ⟨rfl, rfl⟩
    go_wp2_with fail
    go_ret
    rw [Hf.out]
    exact ⟨rfl, rfl⟩
theorem fin_any (hr : Rd w B r s) : Calls Try.prog 76 #[.pointer (some ⟨B, 0, none⟩)] w fun e w' => e = .returned (.int .i64 s.fin) ∧ w = w' := by
  by_cases h : 0 < s.left
  · have Hf : Hid (s.fin = 15) := by show s.fin = 15; rw [Rs.fin, if_pos h]
    go_enter Try.func76, Try.ntmps76
    go_wp2_with fail
    refine (left_any hr).mono ?_
    rintro e w' ⟨rfl, rfl⟩
    go_wp2_with fail
    go_ret
    rw [Hf.out]
    exact ⟨rfl, rfl⟩
  · have Hf : Hid (s.fin = s.e) := by show s.fin = s.e; rw [Rs.fin, if_neg h]
    go_enter Try.func76, Try.ntmps76
    go_wp2_with fail
    refine (left_any hr).mono ?_
    rintro e w' ⟨rfl, rfl⟩
    go_wp2_with fail
    refine (err_any hr).mono ?_
    rintro e w' ⟨rfl, rfl⟩
    go_wp2_with fail
    go_ret
    rw [Hf.out]
    exact ⟨rfl, rfl⟩
theorem rflag_any (hr : Rd w B r s) : Calls Try.prog 142 #[.pointer (some ⟨B, 0, none⟩)] w fun e w' => e = .returned (.bool s.flag.1) ∧ RdTo w w' B r s.flag.2 := by
  obtain ⟨n, hn⟩ : ∃ n, n = s.one.1 := ⟨_, rfl⟩
  have Hn := Lib.hid hn
  clear hn
  by_cases h : 1 < n
  · have Hf : Hid (s.flag = (false, s.one.2.fail 2)) := by
      show s.flag = _
      rw [Rs.flag, if_pos (by rw [← Hn.out]; exact h)]
    go_enter Try.func142, Try.ntmps142
    go_wp2_with fail
    refine ((one_any hr).mono (R' := fun e w' => e = .returned (.int .u8 (n : Nat)) ∧ RdTo w w' B r s.one.2) (fun e w' h => by rw [Hn.out]; exact h)).mono ?_
    rintro e w1 ⟨rfl, hto⟩
    obtain ⟨⟨r1, hr1, hr1'⟩, ho1⟩ := id hto
    go_wp2_with fail
    refine (fail_any 2 hr1).mono ?_
    rintro e w2 ⟨rfl, hto2⟩
    go_wp2_with fail
    go_ret
    rw [Hf.out]
    exact ⟨rfl, hto.trans hr1' hto2⟩
  · have Hf : Hid (s.flag = (s.one.1 == 1, s.one.2)) := by
      show s.flag = _
      rw [Rs.flag, if_neg (by rw [← Hn.out]; exact h)]
    have Hb : Hid (((n : Int) == 1) = (n == 1)) := by
      show ((n : Int) == 1) = (n == 1)
      rw [Bool.eq_iff_iff]; simp; omega
    go_enter Try.func142, Try.ntmps142
    go_wp2_with fail
    refine ((one_any hr).mono (R' := fun e w' => e = .returned (.int .u8 (n : Nat)) ∧ RdTo w w' B r s.one.2) (fun e w' h => by rw [Hn.out]; exact h)).mono ?_
    rintro e w1 ⟨rfl, hto⟩
    go_wp2_with fail
    go_ret
    rw [Hf.out, ← Hn.out, ← Hb.out]
    exact ⟨rfl, hto⟩
theorem unfold_bits (n : Nat) (h : n < 18446744073709551616) : bits .xor .i64 (wrap64 ((n : Int) / 2)) (wrap64 (-wrap64 (bits .and .u64 (n : Int) 1))) = unfold n := by
  have e1 : bits .and .u64 (n : Int) 1 = ((n % 2 : Nat) : Int) := by
    rw [show (1 : Int) = ((1 : Nat) : Int) from rfl, bits_and .u64 rfl n 1 h (by decide)]
    congr 1
    exact Nat.and_two_pow_sub_one_eq_mod n 1
  have e2 : wrap64 ((n : Int) / 2) = ((n / 2 : Nat) : Int) := by unfold wrap64; omega
  have e3 : wrap64 (((n % 2 : Nat) : Int)) = ((n % 2 : Nat) : Int) := by unfold wrap64; omega
  have hb : (BitVec.ofInt 64 ((n / 2 : Nat) : Int)).toNat = n / 2 := ofInt_toNat 64 _ (by show n / 2 < 18446744073709551616; omega)
  rw [e1, e2, e3]
  unfold unfold
  rcases Nat.mod_two_eq_zero_or_one n with h0 | h0
  · rw [h0, if_pos rfl]
    have e4 : wrap64 (-((0 : Nat) : Int)) = 0 := by unfold wrap64; omega
    rw [e4]
    show IntKind.i64.wrap ((BitVec.ofInt 64 ((n / 2 : Nat) : Int) ^^^ BitVec.ofInt 64 0).toNat : Int) = _
    rw [show BitVec.ofInt 64 0 = 0#64 from rfl, BitVec.xor_zero, hb, IntKind.wrap_i64]
    omega
  · rw [h0, if_neg (by omega)]
    have e4 : wrap64 (-((1 : Nat) : Int)) = -1 := by unfold wrap64; omega
    rw [e4]
    show IntKind.i64.wrap ((BitVec.ofInt 64 ((n / 2 : Nat) : Int) ^^^ BitVec.ofInt 64 (-1)).toNat : Int) = _
    rw [show BitVec.ofInt 64 (-1) = BitVec.allOnes 64 from by decide, BitVec.xor_allOnes, BitVec.toNat_not, hb, IntKind.wrap_i64]
    omega
theorem rint_any (hr : Rd w B r s) : Calls Try.prog 137 #[.pointer (some ⟨B, 0, none⟩)] w fun e w' => e = .returned (.int .i64 s.int.1) ∧ RdTo w w' B r s.int.2 := by
  have hlt := s.num_lt
  obtain ⟨n, hn⟩ : ∃ n, n = s.num.1 := ⟨_, rfl⟩
  have Hn := Lib.hid hn
  rw [← hn] at hlt
  have Hlt := Lib.hid hlt
  clear hlt hn
  go_enter Try.func137, Try.ntmps137
  go_wp2_with fail
  refine ((rnum_any hr).mono (R' := fun e w' => e = .returned (.int .u64 (n : Nat)) ∧ RdTo w w' B r s.num.2) (fun e w' h => by rw [Hn.out]; exact h)).mono ?_
  rintro e w1 ⟨rfl, hto⟩
  go_wp2_with fail
  go_ret
  refine ⟨?_, hto⟩
  have e := unfold_bits n Hlt.out
  have e2 : s.int.1 = unfold n := by rw [Hn.out]; rfl
  exact congrArg (fun z => Ending.returned (.int .i64 z)) (e.trans e2.symm)
set_option maxHeartbeats 1000000 in
theorem rtext_any (most : Int) (hm : 0 ≤ most) (hm2 : most ≤ 1099511627776) (hr : Rd w B r s) :
    Calls Try.prog 141 #[.pointer (some ⟨B, 0, none⟩), .int .i64 most] w fun e w' => e = .returned (.string ⟨⟨(s.text most).1⟩⟩) ∧ RdTo w w' B r (s.text most).2 := by
  obtain ⟨n, hn⟩ : ∃ n, n = (s.count most).1 := ⟨_, rfl⟩
  obtain ⟨t, ht⟩ : ∃ t, t = (s.count most).2 := ⟨_, rfl⟩
  have Hn := Lib.hid hn
  have Ht := Lib.hid ht
  clear hn ht
  have C := (count_any most hm hm2 hr).mono (R' := fun e w' => e = .returned (.int .i64 (n : Nat)) ∧ RdTo w w' B r t) (fun e w' h => by rw [Hn.out, Ht.out]; exact h)
  have HC := Lib.hid C
  clear C
  by_cases he : t.e = 0
  · have he0 : (t.e == 0) = true := by simp [he]
    have he1 : (t.e != 0) = false := by simp [he]
    by_cases hlen : n ≤ t.b.length
    · have Hf : Hid (s.text most = (t.b.take n, ⟨t.b.drop n, 0⟩)) := by
        show s.text most = _
        unfold Rs.text; simp only [← Hn.out, ← Ht.out]; rw [if_pos he, if_pos hlen]
      have Hte : Hid (t.e = 0) := he
      clear he
      go_enter Try.func141, Try.ntmps141
      go_wp2_with fail
      refine HC.out.mono ?_
      rintro e w1 ⟨rfl, hto⟩
      obtain ⟨⟨r1, hr1, hr1'⟩, ho1⟩ := id hto
      obtain ⟨a, cap, hb, hl, h1, h2, h3, h4, h5⟩ := id hr1
      have hc := hb.cell (i := 0) rfl
      have hf := hb.frozen 0
      have H3 := Lib.hid h3
      clear h3
      have hcv := fun c => run_conv_string (P := Try.prog) w1 24 9 5 Try.underlying24 Try.underlying5 Try.underlying9 a n c (t.b.take n) (by simp; omega) (by rw [ub_take]; exact hl.take n)
      go_wp2_with fail
      refine (err_any hr1).mono ?_
      rintro e w' ⟨rfl, rfl⟩
      go_wp2_with fail
      refine (err_any hr1).mono ?_
      rintro e w' ⟨rfl, rfl⟩
      have hb' : Blk w1 B #[.slice a t.b.length cap, .int .i64 0] 187 := by
        have := Hte.out; rw [this] at hb; exact hb
      have Hb' := Lib.hid hb'
      clear hb'
      go_wp2_with fail
      · have hcap : cap = n := by assumption
        go_ret
        rw [Hf.out]
        refine ⟨rfl, hto.trans hr1' (Rd.move Hb'.out ?_ (by simp; omega) (by simp [maxLen]) H3.out h4 (by simp; omega) (by simp))⟩
        rw [List.drop_eq_nil_of_le (by omega)]
        exact Lies.nil _ _
      · go_ret
        rw [Hf.out]
        refine ⟨rfl, hto.trans hr1' (Rd.move Hb'.out ?_ (by simp; omega) (Nat.le_trans (Nat.sub_le _ _) h2) (by rw [ablk_add]; exact H3.out) h4 (by simp; omega) (by simp))⟩
        rw [ub_drop]
        exact hl.drop n
    · have Hf : Hid (s.text most = ([], ⟨[], 4⟩)) := by
        show s.text most = _
        unfold Rs.text; simp only [← Hn.out, ← Ht.out]; rw [if_pos he, if_neg hlen]
      have Hfl : Hid (t.fail 4 = ⟨[], 4⟩) := by
        show t.fail 4 = _
        unfold Rs.fail; rw [if_pos he]
      clear he
      have hlen' : t.b.length < n := by omega
      go_enter Try.func141, Try.ntmps141
      go_wp2_with fail
      refine HC.out.mono ?_
      rintro e w1 ⟨rfl, hto⟩
      obtain ⟨⟨r1, hr1, hr1'⟩, ho1⟩ := id hto
      obtain ⟨a, cap, hb, hl, h1, h2, h3, h4, h5⟩ := id hr1
      have hc := hb.cell (i := 0) rfl
      clear h3
      go_wp2_with fail
      refine (err_any hr1).mono ?_
      rintro e w' ⟨rfl, rfl⟩
      go_wp2_with fail
      refine ((fail_any 4 hr1).mono (R' := fun e w' => e = .returned (.tuple #[]) ∧ RdTo w1 w' B r1 ⟨[], 4⟩) (fun e w' h => by rw [← Hfl.out]; exact h)).mono ?_
      rintro e w2 ⟨rfl, hto2⟩
      obtain ⟨⟨r2, hr2, hr2'⟩, ho2⟩ := id hto2
      go_wp2_with fail
      refine (err_any hr2).mono ?_
      rintro e w' ⟨rfl, rfl⟩
      go_wp2_with fail
      go_ret
      rw [Hf.out]
      exact ⟨rfl, hto.trans hr1' hto2⟩
  · have he0 : (t.e == 0) = false := by simp [he]
    have he1 : (t.e != 0) = true := by simp [he]
    have Hf : Hid (s.text most = ([], t)) := by
      show s.text most = _
      unfold Rs.text; simp only [← Ht.out]; rw [if_neg he]
    clear he
    go_enter Try.func141, Try.ntmps141
    go_wp2_with fail
    refine HC.out.mono ?_
    rintro e w1 ⟨rfl, hto⟩
    obtain ⟨⟨r1, hr1, hr1'⟩, ho1⟩ := id hto
    go_wp2_with fail
    refine (err_any hr1).mono ?_
    rintro e w' ⟨rfl, rfl⟩
    go_wp2_with fail
    refine (err_any hr1).mono ?_
    rintro e w' ⟨rfl, rfl⟩
    go_wp2_with fail
    go_ret
    rw [Hf.out]
    exact ⟨rfl, hto⟩
end
theorem read_any (a : Option Addr) (cap : Nat) (bs : List UInt8) (w : World) (hl : Lies w a (ub bs)) (hlen : bs.length ≤ 1099511627776) :
    Calls Try.prog 73 #[.slice a bs.length cap] w fun e w' => ∃ B r, e = .returned (.pointer (some ⟨B, 0, none⟩)) ∧ w.heap.size ≤ B ∧ (∀ k, r = some k → w.heap.size ≤ k) ∧ Rd w' B r ⟨bs, 0⟩ ∧ Pure w w' := by
  go_enter Try.func73, Try.ntmps73
  go_wp2_with fail
  refine (clone_bytes a cap bs _ hl hlen).mono ?_
  rintro e w1 ⟨⟨a2, cap2, rfl, hrow2, h1, h2⟩, ho⟩
  go_wp2
  go_ret
  refine ⟨w1.heap.size, ablk a2, rfl, ho.size, h2, ⟨a2, cap2, Blk.new w1 _ _, hrow2.lies.alloc _, hrow2.2.1, hrow2.2.2.1, rfl, ?_, hlen⟩, ho.alloc _⟩
  intro h
  have := hrow2.lt _ h
  omega
end Go.Proofs.Ytchmcjimnliodaa
