/- Several texts in one: OctR, Crc, Frame, FrameN, FrameG, FrameS, LawR, FrB, WD, WD2, WD3, WD4. No conditions. -/
import Derived.Test.YtchmcjimnliodaaMW2
import Derived.BigQuiet
import Derived.Deep.QuietTactic
import Derived.Deep.RegionWith
import Derived.Deep.DeepCutAuto
import Derived.RangeFuncNested
import Derived.RangeFuncBound
import Derived.RangeFuncCalls
import Derived.RangeFuncLeaves
import Derived.Shelf.Abstract
import Derived.Shelf.RegionOpen
import Derived.OwnWalkIn
import Derived.TacticsInMore
import Derived.LoopNIn
import Derived.LoopIn
section
set_option linter.unusedSimpArgs false
set_option linter.unusedVariables false
/- The reader of octet: what each of its functions leaves. -/
namespace Go.Proofs.Ytchmcjimnliodaa
open Go.RowKit
set_option maxRecDepth 100000

/-- Block `B` is a reader in the state `s`, its bytes in the block `r`. -/
def Rd (w : World) (B : Nat) (r : Option Nat) (s : Rs) : Prop :=
  ∃ a cap, Blk w B #[.slice a s.b.length cap, .int .i64 s.e] 187 ∧ Lies w a (ub s.b) ∧ s.b.length ≤ cap ∧ cap ≤ maxLen ∧ ablk a = r ∧ r ≠ some B ∧ s.b.length ≤ 1099511627776
structure RdTo (w w' : World) (B : Nat) (r : Option Nat) (s : Rs) : Prop where
  now : ∃ r', Rd w' B r' s ∧ (r' = r ∨ r' = none)
  only : Only (fun k => k = B) w w'
theorem Rd.lt {w : World} {B : Nat} {r : Option Nat} {s : Rs} (h : Rd w B r s) : B < w.heap.size := by
  obtain ⟨a, cap, hb, _⟩ := h; exact hb.lt
theorem Rd.self {w : World} {B : Nat} {r : Option Nat} {s : Rs} (h : Rd w B r s) : RdTo w w B r s := ⟨⟨r, h, .inl rfl⟩, Only.refl _ _⟩
theorem Rd.only {S : Nat → Prop} {w w' : World} {B : Nat} {r : Option Nat} {s : Rs} (h : Rd w B r s) (ho : Only S w w') (hB : ¬ S B) (hr : ∀ k, r = some k → ¬ S k) : Rd w' B r s := by
  obtain ⟨a, cap, hb, hl, h1, h2, rfl, h3⟩ := h
  exact ⟨a, cap, hb.only ho hB, hl.only ho hr, h1, h2, rfl, h3⟩
theorem RdTo.trans {w w1 w2 : World} {B : Nat} {r r1 : Option Nat} {s1 s2 : Rs} (h : RdTo w w1 B r s1) (hr : r1 = r ∨ r1 = none) (k : RdTo w1 w2 B r1 s2) : RdTo w w2 B r s2 := by
  obtain ⟨⟨r2, h2, hr2⟩, ho2⟩ := k
  refine ⟨⟨r2, h2, ?_⟩, h.only.trans ho2 (fun _ _ h => h)⟩
  rcases hr2 with rfl | rfl
  · exact hr
  · exact .inr rfl

section
variable {B : Nat} {r : Option Nat} {s : Rs} {w : World}
theorem err_any (hr : Rd w B r s) : Calls Try.prog 75 #[.pointer (some ⟨B, 0, none⟩)] w fun e w' => e = .returned (.int .i64 s.e) ∧ w = w' := by
  obtain ⟨a, cap, hb, _⟩ := hr
  have hc := hb.cell (i := 1) rfl
  go_enter Try.func75, Try.ntmps75
  go_wp2
  go_ret
  exact ⟨rfl, rfl⟩
theorem fail_any (k : Int) (hr : Rd w B r s) : Calls Try.prog 119 #[.pointer (some ⟨B, 0, none⟩), .int .i64 k] w fun e w' => e = .returned (.tuple #[]) ∧ RdTo w w' B r (s.fail k) := by
  have hself := hr.self
  have hr0 := hr
  obtain ⟨a, cap, hb, hl, h1, h2, h3, h4, h5⟩ := hr
  have hc := hb.cell (i := 0) rfl
  have hc1 := hb.cell (i := 1) rfl
  have hf := hb.frozen 0
  have hf1 := hb.frozen 1
  have H3 := Lib.hid h3
  clear h3
  by_cases he : s.e = 0
  · have he' : (s.e == 0) = true := by simp [he]
    have Hfin : Hid (s.fail k = ⟨[], k⟩) := by rw [Rs.fail, if_pos he]; rfl
    clear he
    go_enter Try.func119, Try.ntmps119
    go_wp2_with fail
    refine (err_any hr0).mono ?_
    rintro e w' ⟨rfl, rfl⟩
    go_wp2
    go_end0
    refine ⟨rfl, ?_⟩
    rw [Hfin.out]
    have hb2 := (hb.set 1 (.int .i64 k)).set 0 (.slice none 0 0)
    exact ⟨⟨none, ⟨none, 0, hb2, Lies.nil _ _, Nat.le_refl _, Nat.zero_le _, rfl, by simp, by simp⟩, .inr rfl⟩, ((Only.refl (fun k => k = B) _).setCell (fun _ => rfl) _).setCell (fun _ => rfl) _⟩
  · have he' : (s.e == 0) = false := by simp [he]
    have Hfin : Hid (s.fail k = s) := by rw [Rs.fail, if_neg he]; rfl
    clear he
    go_enter Try.func119, Try.ntmps119
    go_wp2_with fail
    refine (err_any hr0).mono ?_
    rintro e w' ⟨rfl, rfl⟩
    go_wp2
    go_end0
    refine ⟨rfl, ?_⟩
    rw [Hfin.out]
    exact hself
theorem Rd.move {a' : Option Addr} {cap' n : Nat} {v : Value} {t : List UInt8} (hb : Blk w B #[v, .int .i64 0] 187) (hl : Lies w a' (ub t)) (h1 : t.length ≤ cap') (h2 : cap' ≤ maxLen) (h3 : ablk a' = r) (h4 : r ≠ some B)
    (h5 : t.length ≤ 1099511627776) (hn : n = t.length) : RdTo w (w.setCell ⟨B, 0, none⟩ (.slice a' n cap')) B r ⟨t, 0⟩ := by
  subst hn
  exact ⟨⟨r, ⟨a', cap', hb.set 0 _, hl.setCell (by rw [h3]; exact h4) _, h1, h2, h3, h4, h5⟩, .inl rfl⟩, (Only.refl (fun k => k = B) _).setCell (fun _ => rfl) _⟩
theorem one_any (hr : Rd w B r s) : Calls Try.prog 118 #[.pointer (some ⟨B, 0, none⟩)] w fun e w' => e = .returned (.int .u8 s.one.1) ∧ RdTo w w' B r s.one.2 := by
  have hself := hr.self
  have hr0 := hr
  obtain ⟨bs, er⟩ := s
  obtain ⟨a, cap, hb, hl, h1, h2, h3, h4, h5⟩ := hr
  have hc := hb.cell (i := 0) rfl
  have hc1 := hb.cell (i := 1) rfl
  have hf := hb.frozen 0
  have H3 := Lib.hid h3
  clear h3
  simp only at hc hc1 h1 h5
  by_cases he : er = 0
  · subst he
    cases bs with
    | nil =>
      go_enter Try.func118, Try.ntmps118
      go_wp2_with fail
      refine (err_any hr0).mono ?_
      rintro e w' ⟨rfl, rfl⟩
      go_wp2_with fail
      refine (fail_any 4 hr0).mono ?_
      rintro e w1 ⟨rfl, hto⟩
      obtain ⟨⟨r1, hr1, hr1'⟩, ho1⟩ := id hto
      go_wp2_with fail
      refine (err_any hr1).mono ?_
      rintro e w' ⟨rfl, rfl⟩
      go_wp2_with fail
      go_ret
      exact ⟨rfl, hto⟩
    | cons c t =>
      have hcap0 : 1 ≤ cap := by simp at h1; omega
      have hl0 : ((t.length : Int) + 1 == 0) = false := by
        rw [beq_eq_false_iff_ne]; omega
      have hld := hl.drop 1
      rw [← ub_drop] at hld
      obtain ⟨b, o, rfl, hbl, hcell⟩ := hl.addr (by simp [ub])
      have hc00 : w.cell? ⟨b, o, none⟩ = some (.int .u8 c.toNat) := hcell 0 _ rfl
      simp only [List.length_cons] at hc h1 h5
      clear hcell hl
      go_enter Try.func118, Try.ntmps118
      go_wp2_with fail
      refine (err_any hr0).mono ?_
      rintro e w' ⟨rfl, rfl⟩
      go_wp2_with fail
      refine (err_any hr0).mono ?_
      rintro e w' ⟨rfl, rfl⟩
      go_wp2_with fail
      · have ht : t = [] := by
          cases t with
          | nil => rfl
          | cons _ _ => have : cap = 1 := by assumption
                        simp at h1; omega
        go_ret
        subst ht
        refine ⟨rfl, Rd.move hb (Lies.nil _ _) (by simp) (Nat.le_trans (by omega) h2) H3.out h4 (by simp) (by simp)⟩
      · go_ret
        refine ⟨rfl, Rd.move hb (by simpa [Addr.add] using hld) (by omega) (Nat.le_trans (by omega) h2) H3.out h4 (by omega) (by simp)⟩
  · have he0 : (er == 0) = false := by simp [he]
    have he1 : (er != 0) = true := by simp [he]
    have Hfin : Hid (Rs.one ⟨bs, er⟩ = (0, ⟨bs, er⟩)) := by rw [Rs.one, if_neg he]; rfl
    clear he
    go_enter Try.func118, Try.ntmps118
    go_wp2_with fail
    refine (err_any hr0).mono ?_
    rintro e w' ⟨rfl, rfl⟩
    go_wp2_with fail
    refine (err_any hr0).mono ?_
    rintro e w' ⟨rfl, rfl⟩
    go_wp2_with fail
    go_ret
    rw [Hfin.out]
    exact ⟨rfl, hself⟩
theorem numBad_eq (sh : Nat) (c : UInt8) : numBad sh c = decide (63 < sh ∨ (sh = 63 ∧ 1 < c.toNat) ∨ (c.toNat = 0 ∧ 0 < sh)) := by
  unfold numBad; rw [Bool.eq_iff_iff]; simp [Bool.or_eq_true, or_assoc]
/-- What a round of Num ends in. -/
theorem dec_bad {sh x : Nat} {c : UInt8} {t : List UInt8} (h : numBad sh c = true) : dec sh x (c :: t) = (0, ⟨[], 2⟩) := by rw [dec, if_pos h]
theorem dec_ret {sh x : Nat} {c : UInt8} {t : List UInt8} (h : numBad sh c = false) (h1 : c.toNat < 128) : dec sh x (c :: t) = (x + c.toNat % 128 * 2 ^ sh, ⟨t, 0⟩) := by
  rw [dec, if_neg (by simp [h]), if_pos h1, Nat.mod_eq_of_lt h1]
theorem dec_go {sh x : Nat} {c : UInt8} {t : List UInt8} (h : numBad sh c = false) (h1 : 128 ≤ c.toNat) : dec sh x (c :: t) = dec (sh + 7) (x + c.toNat % 128 * 2 ^ sh) t := by
  have := c.toNat_lt
  rw [dec, if_neg (by simp [h]), if_neg (by omega)]
  rw [show c.toNat % 128 = c.toNat - 128 by omega]
set_option maxHeartbeats 1000000 in
theorem rnum_any (hr : Rd w B r s) : Calls Try.prog 74 #[.pointer (some ⟨B, 0, none⟩)] w fun e w' => e = .returned (.int .u64 s.num.1) ∧ RdTo w w' B r s.num.2 := by
  have hself := hr.self
  have hr0 := hr
  obtain ⟨bs, er⟩ := s
  by_cases he : er = 0
  · subst he
    have Hfin : Hid (Rs.num ⟨bs, 0⟩ = dec 0 0 bs) := rfl
    rw [Hfin.out]
    clear hr Hfin hr0
    go_enter Try.func74, Try.ntmps74
    go_wp2
    go_loopw [3, 4] (fun x sh wr => ∃ (k y : Nat) (t : List UInt8), k ≤ 9 ∧ sh = .int .i64 (7 * k : Nat) ∧ x = .int .u64 y ∧ y < 2 ^ (7 * k) ∧ dec (7 * k) y t = dec 0 0 bs ∧ RdTo w wr B r ⟨t, 0⟩) (fun _ sh _ => 70 - (intOf sh).toNat)
    case atStart => exact ⟨0, 0, bs, by omega, rfl, rfl, by simp, rfl, hself⟩
    case round =>
      obtain ⟨k, y, t, hk, rfl, rfl, hy, hdec, hto⟩ := hrel
      have Hy := Lib.hid hy
      have Hdec := Lib.hid hdec
      clear hy hdec
      obtain ⟨⟨r1, hr1, hr1'⟩, ho1⟩ := id hto
      go_wp2_with fail
      refine (err_any hr1).mono ?_
      rintro e w' ⟨rfl, rfl⟩
      go_wp2_with fail
      cases t with
      | nil =>
        refine (one_any hr1).mono ?_
        rintro e w2 ⟨rfl, hto2⟩
        obtain ⟨⟨r2, hr2, hr2'⟩, ho2⟩ := id hto2
        go_wp2_with fail
        refine (err_any hr2).mono ?_
        rintro e w' ⟨rfl, rfl⟩
        go_wp2_with fail
        go_ret
        rw [← Hdec.out]
        exact ⟨rfl, hto.trans hr1' hto2⟩
      | cons c t =>
        obtain ⟨z, hz⟩ : ∃ z : Nat, z = c.toNat := ⟨_, rfl⟩
        have hz256 : z < 256 := by have := c.toNat_lt; omega
        refine ((one_any hr1).mono (R' := fun e w' => e = .returned (.int .u8 (z : Nat)) ∧ RdTo wr w' B r1 ⟨t, 0⟩) (fun e w' h => by rw [hz]; exact h)).mono ?_
        have Hz := Lib.hid hz
        clear hz
        rintro e w2 ⟨rfl, hto2⟩
        obtain ⟨⟨r2, hr2, hr2'⟩, ho2⟩ := id hto2
        have htoo := hto.trans hr1' hto2
        have hr2r : r2 = r ∨ r2 = none := by
          rcases hr2' with rfl | rfl
          · exact hr1'
          · exact .inr rfl
        go_wp2_with fail
        refine (err_any hr2).mono ?_
        rintro e w' ⟨rfl, rfl⟩
        rcases (by omega : (9 ≤ k ∧ 2 ≤ z) ∨ (9 ≤ k ∧ z ≤ 0) ∨ (9 ≤ k ∧ 1 ≤ z ∧ z ≤ 1) ∨ (1 ≤ k ∧ k ≤ 8 ∧ z ≤ 0) ∨ (1 ≤ k ∧ k ≤ 8 ∧ 1 ≤ z ∧ z ≤ 127) ∨ (1 ≤ k ∧ k ≤ 8 ∧ 128 ≤ z) ∨ (k ≤ 0 ∧ z ≤ 0) ∨ (k ≤ 0 ∧ 1 ≤ z ∧ z ≤ 127) ∨ (k ≤ 0 ∧ 128 ≤ z)) with ⟨g1, g2⟩ | ⟨g1, g2⟩ | ⟨g1, g2, g3⟩ | ⟨g1, g2, g3⟩ | ⟨g1, g2, g3, g4⟩ | ⟨g1, g2, g3⟩ | ⟨g1, g2⟩ | ⟨g1, g2, g3⟩ | ⟨g1, g2⟩
        · have f1 : ((7 * (k : Int)) == 63) = true := by rw [beq_iff_eq]; omega
          have f2 : ((z : Int) == 0) = false := by rw [beq_eq_false_iff_ne]; omega
          have Hb : Hid (numBad (7 * k) c = true) := by
            have := Hz.out
            show numBad (7 * k) c = true
            rw [numBad_eq, decide_eq_true_eq]; omega
          go_wp2_with fail
          refine (fail_any 2 hr2).mono ?_
          rintro e w3 ⟨rfl, hto3⟩
          go_wp2_with fail
          go_ret
          rw [← Hdec.out, dec_bad Hb.out]
          exact ⟨rfl, htoo.trans hr2r hto3⟩
        · have f1 : ((7 * (k : Int)) == 63) = true := by rw [beq_iff_eq]; omega
          have f2 : ((z : Int) == 0) = true := by rw [beq_iff_eq]; omega
          have Hb : Hid (numBad (7 * k) c = true) := by
            have := Hz.out
            show numBad (7 * k) c = true
            rw [numBad_eq, decide_eq_true_eq]; omega
          go_wp2_with fail
          refine (fail_any 2 hr2).mono ?_
          rintro e w3 ⟨rfl, hto3⟩
          go_wp2_with fail
          go_ret
          rw [← Hdec.out, dec_bad Hb.out]
          exact ⟨rfl, htoo.trans hr2r hto3⟩
        · have f1 : ((7 * (k : Int)) == 63) = true := by rw [beq_iff_eq]; omega
          have f2 : ((z : Int) == 0) = false := by rw [beq_eq_false_iff_ne]; omega
          have Hb : Hid (numBad (7 * k) c = false) := by
            have := Hz.out
            show numBad (7 * k) c = false
            rw [numBad_eq, decide_eq_false_iff_not]; omega
          have Hv := Lib.hid (num_val (k := k) (z := z) Hy.out hz256 hk (by omega))
          go_wp2_with fail
          go_ret
          rw [← Hdec.out, dec_ret Hb.out (by rw [← Hz.out]; omega), ← Hz.out, ← Hv.out]
          exact ⟨rfl, htoo⟩
        · have f1 : ((7 * (k : Int)) == 63) = false := by rw [beq_eq_false_iff_ne]; omega
          have f2 : ((z : Int) == 0) = true := by rw [beq_iff_eq]; omega
          have Hb : Hid (numBad (7 * k) c = true) := by
            have := Hz.out
            show numBad (7 * k) c = true
            rw [numBad_eq, decide_eq_true_eq]; omega
          go_wp2_with fail
          refine (fail_any 2 hr2).mono ?_
          rintro e w3 ⟨rfl, hto3⟩
          go_wp2_with fail
          go_ret
          rw [← Hdec.out, dec_bad Hb.out]
          exact ⟨rfl, htoo.trans hr2r hto3⟩
        · have f1 : ((7 * (k : Int)) == 63) = false := by rw [beq_eq_false_iff_ne]; omega
          have f2 : ((z : Int) == 0) = false := by rw [beq_eq_false_iff_ne]; omega
          have Hb : Hid (numBad (7 * k) c = false) := by
            have := Hz.out
            show numBad (7 * k) c = false
            rw [numBad_eq, decide_eq_false_iff_not]; omega
          have Hv := Lib.hid (num_val (k := k) (z := z) Hy.out hz256 hk (by omega))
          go_wp2_with fail
          go_ret
          rw [← Hdec.out, dec_ret Hb.out (by rw [← Hz.out]; omega), ← Hz.out, ← Hv.out]
          exact ⟨rfl, htoo⟩
        · have f1 : ((7 * (k : Int)) == 63) = false := by rw [beq_eq_false_iff_ne]; omega
          have f2 : ((z : Int) == 0) = false := by rw [beq_eq_false_iff_ne]; omega
          have Hb : Hid (numBad (7 * k) c = false) := by
            have := Hz.out
            show numBad (7 * k) c = false
            rw [numBad_eq, decide_eq_false_iff_not]; omega
          have Hv := Lib.hid (num_val (k := k) (z := z) Hy.out hz256 hk (by omega))
          go_wp2_with fail
          go_roundw
          case rel =>
            refine ⟨k + 1, y + z % 128 * 2 ^ (7 * k), t, by omega, by go_num, by rw [← Hv.out], num_val_lt Hy.out, ?_, htoo⟩
            rw [← Hdec.out, dec_go Hb.out (by rw [← Hz.out]; omega), ← Hz.out]
            rfl
          case measure => simp [intOf]; omega
        · have f1 : ((7 * (k : Int)) == 63) = false := by rw [beq_eq_false_iff_ne]; omega
          have f2 : ((z : Int) == 0) = true := by rw [beq_iff_eq]; omega
          have Hb : Hid (numBad (7 * k) c = false) := by
            have := Hz.out
            show numBad (7 * k) c = false
            rw [numBad_eq, decide_eq_false_iff_not]; omega
          have Hv := Lib.hid (num_val (k := k) (z := z) Hy.out hz256 hk (by omega))
          go_wp2_with fail
          go_ret
          rw [← Hdec.out, dec_ret Hb.out (by rw [← Hz.out]; omega), ← Hz.out, ← Hv.out]
          exact ⟨rfl, htoo⟩
        · have f1 : ((7 * (k : Int)) == 63) = false := by rw [beq_eq_false_iff_ne]; omega
          have f2 : ((z : Int) == 0) = false := by rw [beq_eq_false_iff_ne]; omega
          have Hb : Hid (numBad (7 * k) c = false) := by
            have := Hz.out
            show numBad (7 * k) c = false
            rw [numBad_eq, decide_eq_false_iff_not]; omega
          have Hv := Lib.hid (num_val (k := k) (z := z) Hy.out hz256 hk (by omega))
          go_wp2_with fail
          go_ret
          rw [← Hdec.out, dec_ret Hb.out (by rw [← Hz.out]; omega), ← Hz.out, ← Hv.out]
          exact ⟨rfl, htoo⟩
        · have f1 : ((7 * (k : Int)) == 63) = false := by rw [beq_eq_false_iff_ne]; omega
          have f2 : ((z : Int) == 0) = false := by rw [beq_eq_false_iff_ne]; omega
          have Hb : Hid (numBad (7 * k) c = false) := by
            have := Hz.out
            show numBad (7 * k) c = false
            rw [numBad_eq, decide_eq_false_iff_not]; omega
          have Hv := Lib.hid (num_val (k := k) (z := z) Hy.out hz256 hk (by omega))
          go_wp2_with fail
          go_roundw
          case rel =>
            refine ⟨k + 1, y + z % 128 * 2 ^ (7 * k), t, by omega, by go_num, by rw [← Hv.out], num_val_lt Hy.out, ?_, htoo⟩
            rw [← Hdec.out, dec_go Hb.out (by rw [← Hz.out]; omega), ← Hz.out]
            rfl
          case measure => simp [intOf]; omega
  · have he0 : (er == 0) = false := by simp [he]
    have he1 : (er != 0) = true := by simp [he]
    have Hfin : Hid (Rs.num ⟨bs, er⟩ = (0, ⟨bs, er⟩)) := by rw [Rs.num, if_neg he]; rfl
    clear he
    go_enter Try.func74, Try.ntmps74
    go_wp2
    refine wp_loop_rounds 1 ?_
    rw [rounds_succ]
    go_wp2_with fail
    refine (err_any hr0).mono ?_
    rintro e w' ⟨rfl, rfl⟩
    go_wp2_with fail
    go_ret
    rw [Hfin.out]
    exact ⟨rfl, hself⟩
theorem dec_lt (bs : List UInt8) : ∀ (k y : Nat), k ≤ 9 → y < 2 ^ (7 * k) → (dec (7 * k) y bs).1 < 18446744073709551616 := by
  induction bs with
  | nil => intro k y _ _; simp [dec]
  | cons c t ih =>
    intro k y hk hy
    by_cases hb : numBad (7 * k) c = true
    · rw [dec_bad hb]; simp
    · have hb' : numBad (7 * k) c = false := by simpa using hb
      have hb2 := hb'
      rw [numBad_eq, decide_eq_false_iff_not] at hb2
      have hc := c.toNat_lt
      have hv := num_val (y := y) (z := c.toNat) hy hc hk (fun h => by subst h; omega)
      have hlt : y + c.toNat % 128 * 2 ^ (7 * k) < 18446744073709551616 := by
        rcases Nat.lt_or_ge k 9 with h | h
        · exact Nat.lt_of_lt_of_le (num_val_lt hy) (Nat.pow_le_pow_right (n := 2) (by omega) (show 7 * (k + 1) ≤ 64 by omega))
        · obtain rfl : k = 9 := by omega
          have : c.toNat % 128 * 2 ^ (7 * 9) ≤ 1 * 2 ^ 63 := Nat.mul_le_mul (by omega) (Nat.le_refl _)
          have hy' : y < 2 ^ 63 := hy
          omega
      rcases Nat.lt_or_ge c.toNat 128 with h1 | h1
      · rw [dec_ret hb' h1]; exact hlt
      · rw [dec_go hb' h1]
        refine ih (k + 1) _ ?_ (num_val_lt hy)
        rcases Nat.lt_or_ge k 9 with h | h
        · omega
        · obtain rfl : k = 9 := by omega
          omega
theorem Rs.num_lt (s : Rs) : s.num.1 < 18446744073709551616 := by
  unfold Rs.num; split
  · exact dec_lt s.b 0 0 (by omega) (by simp)
  · simp
set_option maxHeartbeats 400000 in
theorem count_any (most : Int) (hm : 0 ≤ most) (hm2 : most ≤ 1099511627776) (hr : Rd w B r s) :
    Calls Try.prog 105 #[.pointer (some ⟨B, 0, none⟩), .int .i64 most] w fun e w' => e = .returned (.int .i64 (s.count most).1) ∧ RdTo w w' B r (s.count most).2 := by
  have hlt := s.num_lt
  obtain ⟨n, hn⟩ : ∃ n, n = s.num.1 := ⟨_, rfl⟩
  have Hn := Lib.hid hn
  rw [← hn] at hlt
  have Hlt := Lib.hid hlt
  clear hlt hn
  have Hm : Hid (max most 0 = most) := by show max most 0 = most; omega
  by_cases h : most < (n : Int)
  · have Hc : Hid (s.count most = (0, s.num.2.fail 15)) := by
      have := Hn.out; have := Hm.out
      show s.count most = _
      unfold Rs.count; rw [if_pos (by omega)]
    go_enter Try.func105, Try.ntmps105
    go_wp2_with fail
    refine ((rnum_any hr).mono (R' := fun e w' => e = .returned (.int .u64 (n : Nat)) ∧ RdTo w w' B r s.num.2) (fun e w' h => by rw [Hn.out]; exact h)).mono ?_
    rintro e w1 ⟨rfl, hto⟩
    obtain ⟨⟨r1, hr1, hr1'⟩, ho1⟩ := id hto
    go_wp2_with fail
    refine (fail_any 15 hr1).mono ?_
    rintro e w2 ⟨rfl, hto2⟩
    go_wp2_with fail
    go_ret
    rw [Hc.out]
    exact ⟨rfl, hto.trans hr1' hto2⟩
  · have Hc : Hid (s.count most = s.num) := by
      have := Hn.out; have := Hm.out
      show s.count most = _
      unfold Rs.count; rw [if_neg (by omega)]
    have h' : (n : Int) ≤ most := by omega
    have Hw : Hid (IntKind.i64.wrap (n : Int) = n) := by show IntKind.i64.wrap (n : Int) = n; rw [IntKind.wrap_i64]; omega
    clear h
    go_enter Try.func105, Try.ntmps105
    go_wp2_with fail
    refine ((rnum_any hr).mono (R' := fun e w' => e = .returned (.int .u64 (n : Nat)) ∧ RdTo w w' B r s.num.2) (fun e w' h => by rw [Hn.out]; exact h)).mono ?_
    rintro e w1 ⟨rfl, hto⟩
    obtain ⟨⟨r1, hr1, hr1'⟩, ho1⟩ := id hto
    go_wp2_with fail
    go_ret
    rw [Hc.out, ← Hn.out]
    exact ⟨rfl, hto⟩
theorem left_any (hr : Rd w B r s) : Calls Try.prog 106 #[.pointer (some ⟨B, 0, none⟩)] w fun e w' => e = .returned (.int .i64 s.left) ∧ w = w' := by
  have hr0 := hr
  obtain ⟨bs, er⟩ := s
  obtain ⟨a, cap, hb, hl, h1, h2, h3, h4, h5⟩ := hr
  have hc := hb.cell (i := 0) rfl
  simp only at hc
  clear h3
  by_cases he : er = 0
  · have he1 : (er != 0) = false := by simp [he]
    have Hf : Hid (Rs.left ⟨bs, er⟩ = bs.length) := by show Rs.left ⟨bs, er⟩ = bs.length; simp [Rs.left, he]
    clear he
    go_enter Try.func106, Try.ntmps106
    go_wp2_with fail
    refine (err_any hr0).mono ?_
    rintro e w' ⟨rfl, rfl⟩
    go_wp2_with fail
    go_ret
    rw [Hf.out]
    exact ⟨rfl, rfl⟩
  · have he1 : (er != 0) = true := by simp [he]
    have Hf : Hid (Rs.left ⟨bs, er⟩ = 0) := by show Rs.left ⟨bs, er⟩ = 0; simp [Rs.left, he]
    clear he
    go_enter Try.func106, Try.ntmps106
    go_wp2_with fail
    refine (err_any hr0).mono ?_
    rintro e w' ⟨rfl, rfl⟩
    go_wp2_with fail
    go_ret
    rw [Hf.out]
    exact ⟨rfl, rfl⟩
theorem fin_any (hr : Rd w B r s) : Calls Try.prog 76 #[.pointer (some ⟨B, 0, none⟩)] w fun e w' => e = .returned (.int .i64 s.fin) ∧ w = w' := by
  by_cases h : 0 < s.left
  · have Hf : Hid (s.fin = 15) := by show s.fin = 15; rw [Rs.fin, if_pos h]
    go_enter Try.func76, Try.ntmps76
    go_wp2_with fail
    refine (left_any hr).mono ?_
    rintro e w' ⟨rfl, rfl⟩
    go_wp2_with fail
    go_ret
    rw [Hf.out]
    exact ⟨rfl, rfl⟩
  · have Hf : Hid (s.fin = s.e) := by show s.fin = s.e; rw [Rs.fin, if_neg h]
    go_enter Try.func76, Try.ntmps76
    go_wp2_with fail
    refine (left_any hr).mono ?_
    rintro e w' ⟨rfl, rfl⟩
    go_wp2_with fail
    refine (err_any hr).mono ?_
    rintro e w' ⟨rfl, rfl⟩
    go_wp2_with fail
    go_ret
    rw [Hf.out]
    exact ⟨rfl, rfl⟩
theorem rflag_any (hr : Rd w B r s) : Calls Try.prog 142 #[.pointer (some ⟨B, 0, none⟩)] w fun e w' => e = .returned (.bool s.flag.1) ∧ RdTo w w' B r s.flag.2 := by
  obtain ⟨n, hn⟩ : ∃ n, n = s.one.1 := ⟨_, rfl⟩
  have Hn := Lib.hid hn
  clear hn
  by_cases h : 1 < n
  · have Hf : Hid (s.flag = (false, s.one.2.fail 2)) := by
      show s.flag = _
      rw [Rs.flag, if_pos (by rw [← Hn.out]; exact h)]
    go_enter Try.func142, Try.ntmps142
    go_wp2_with fail
    refine ((one_any hr).mono (R' := fun e w' => e = .returned (.int .u8 (n : Nat)) ∧ RdTo w w' B r s.one.2) (fun e w' h => by rw [Hn.out]; exact h)).mono ?_
    rintro e w1 ⟨rfl, hto⟩
    obtain ⟨⟨r1, hr1, hr1'⟩, ho1⟩ := id hto
    go_wp2_with fail
    refine (fail_any 2 hr1).mono ?_
    rintro e w2 ⟨rfl, hto2⟩
    go_wp2_with fail
    go_ret
    rw [Hf.out]
    exact ⟨rfl, hto.trans hr1' hto2⟩
  · have Hf : Hid (s.flag = (s.one.1 == 1, s.one.2)) := by
      show s.flag = _
      rw [Rs.flag, if_neg (by rw [← Hn.out]; exact h)]
    have Hb : Hid (((n : Int) == 1) = (n == 1)) := by
      show ((n : Int) == 1) = (n == 1)
      rw [Bool.eq_iff_iff]; simp; omega
    go_enter Try.func142, Try.ntmps142
    go_wp2_with fail
    refine ((one_any hr).mono (R' := fun e w' => e = .returned (.int .u8 (n : Nat)) ∧ RdTo w w' B r s.one.2) (fun e w' h => by rw [Hn.out]; exact h)).mono ?_
    rintro e w1 ⟨rfl, hto⟩
    go_wp2_with fail
    go_ret
    rw [Hf.out, ← Hn.out, ← Hb.out]
    exact ⟨rfl, hto⟩
theorem unfold_bits (n : Nat) (h : n < 18446744073709551616) : bits .xor .i64 (wrap64 ((n : Int) / 2)) (wrap64 (-wrap64 (bits .and .u64 (n : Int) 1))) = unfold n := by
  have e1 : bits .and .u64 (n : Int) 1 = ((n % 2 : Nat) : Int) := by
    rw [show (1 : Int) = ((1 : Nat) : Int) from rfl, bits_and .u64 rfl n 1 h (by decide)]
    congr 1
    exact Nat.and_two_pow_sub_one_eq_mod n 1
  have e2 : wrap64 ((n : Int) / 2) = ((n / 2 : Nat) : Int) := by unfold wrap64; omega
  have e3 : wrap64 (((n % 2 : Nat) : Int)) = ((n % 2 : Nat) : Int) := by unfold wrap64; omega
  have hb : (BitVec.ofInt 64 ((n / 2 : Nat) : Int)).toNat = n / 2 := ofInt_toNat 64 _ (by show n / 2 < 18446744073709551616; omega)
  rw [e1, e2, e3]
  unfold unfold
  rcases Nat.mod_two_eq_zero_or_one n with h0 | h0
  · rw [h0, if_pos rfl]
    have e4 : wrap64 (-((0 : Nat) : Int)) = 0 := by unfold wrap64; omega
    rw [e4]
    show IntKind.i64.wrap ((BitVec.ofInt 64 ((n / 2 : Nat) : Int) ^^^ BitVec.ofInt 64 0).toNat : Int) = _
    rw [show BitVec.ofInt 64 0 = 0#64 from rfl, BitVec.xor_zero, hb, IntKind.wrap_i64]
    omega
  · rw [h0, if_neg (by omega)]
    have e4 : wrap64 (-((1 : Nat) : Int)) = -1 := by unfold wrap64; omega
    rw [e4]
    show IntKind.i64.wrap ((BitVec.ofInt 64 ((n / 2 : Nat) : Int) ^^^ BitVec.ofInt 64 (-1)).toNat : Int) = _
    rw [show BitVec.ofInt 64 (-1) = BitVec.allOnes 64 from by decide, BitVec.xor_allOnes, BitVec.toNat_not, hb, IntKind.wrap_i64]
    omega
theorem rint_any (hr : Rd w B r s) : Calls Try.prog 137 #[.pointer (some ⟨B, 0, none⟩)] w fun e w' => e = .returned (.int .i64 s.int.1) ∧ RdTo w w' B r s.int.2 := by
  have hlt := s.num_lt
  obtain ⟨n, hn⟩ : ∃ n, n = s.num.1 := ⟨_, rfl⟩
  have Hn := Lib.hid hn
  rw [← hn] at hlt
  have Hlt := Lib.hid hlt
  clear hlt hn
  go_enter Try.func137, Try.ntmps137
  go_wp2_with fail
  refine ((rnum_any hr).mono (R' := fun e w' => e = .returned (.int .u64 (n : Nat)) ∧ RdTo w w' B r s.num.2) (fun e w' h => by rw [Hn.out]; exact h)).mono ?_
  rintro e w1 ⟨rfl, hto⟩
  go_wp2_with fail
  go_ret
  refine ⟨?_, hto⟩
  have e := unfold_bits n Hlt.out
  have e2 : s.int.1 = unfold n := by rw [Hn.out]; rfl
  exact congrArg (fun z => Ending.returned (.int .i64 z)) (e.trans e2.symm)
set_option maxHeartbeats 1000000 in
theorem rtext_any (most : Int) (hm : 0 ≤ most) (hm2 : most ≤ 1099511627776) (hr : Rd w B r s) :
    Calls Try.prog 141 #[.pointer (some ⟨B, 0, none⟩), .int .i64 most] w fun e w' => e = .returned (.string ⟨⟨(s.text most).1⟩⟩) ∧ RdTo w w' B r (s.text most).2 := by
  obtain ⟨n, hn⟩ : ∃ n, n = (s.count most).1 := ⟨_, rfl⟩
  obtain ⟨t, ht⟩ : ∃ t, t = (s.count most).2 := ⟨_, rfl⟩
  have Hn := Lib.hid hn
  have Ht := Lib.hid ht
  clear hn ht
  have C := (count_any most hm hm2 hr).mono (R' := fun e w' => e = .returned (.int .i64 (n : Nat)) ∧ RdTo w w' B r t) (fun e w' h => by rw [Hn.out, Ht.out]; exact h)
  have HC := Lib.hid C
  clear C
  by_cases he : t.e = 0
  · have he0 : (t.e == 0) = true := by simp [he]
    have he1 : (t.e != 0) = false := by simp [he]
    by_cases hlen : n ≤ t.b.length
    · have Hf : Hid (s.text most = (t.b.take n, ⟨t.b.drop n, 0⟩)) := by
        show s.text most = _
        unfold Rs.text; simp only [← Hn.out, ← Ht.out]; rw [if_pos he, if_pos hlen]
      have Hte : Hid (t.e = 0) := he
      clear he
      go_enter Try.func141, Try.ntmps141
      go_wp2_with fail
      refine HC.out.mono ?_
      rintro e w1 ⟨rfl, hto⟩
      obtain ⟨⟨r1, hr1, hr1'⟩, ho1⟩ := id hto
      obtain ⟨a, cap, hb, hl, h1, h2, h3, h4, h5⟩ := id hr1
      have hc := hb.cell (i := 0) rfl
      have hf := hb.frozen 0
      have H3 := Lib.hid h3
      clear h3
      have hcv := fun c => run_conv_string (P := Try.prog) w1 24 9 5 Try.underlying24 Try.underlying5 Try.underlying9 a n c (t.b.take n) (by simp; omega) (by rw [ub_take]; exact hl.take n)
      go_wp2_with fail
      refine (err_any hr1).mono ?_
      rintro e w' ⟨rfl, rfl⟩
      go_wp2_with fail
      refine (err_any hr1).mono ?_
      rintro e w' ⟨rfl, rfl⟩
      have hb' : Blk w1 B #[.slice a t.b.length cap, .int .i64 0] 187 := by
        have := Hte.out; rw [this] at hb; exact hb
      have Hb' := Lib.hid hb'
      clear hb'
      go_wp2_with fail
      · have hcap : cap = n := by assumption
        go_ret
        rw [Hf.out]
        refine ⟨rfl, hto.trans hr1' (Rd.move Hb'.out ?_ (by simp; omega) (by simp [maxLen]) H3.out h4 (by simp; omega) (by simp))⟩
        rw [List.drop_eq_nil_of_le (by omega)]
        exact Lies.nil _ _
      · go_ret
        rw [Hf.out]
        refine ⟨rfl, hto.trans hr1' (Rd.move Hb'.out ?_ (by simp; omega) (Nat.le_trans (Nat.sub_le _ _) h2) (by rw [ablk_add]; exact H3.out) h4 (by simp; omega) (by simp))⟩
        rw [ub_drop]
        exact hl.drop n
    · have Hf : Hid (s.text most = ([], ⟨[], 4⟩)) := by
        show s.text most = _
        unfold Rs.text; simp only [← Hn.out, ← Ht.out]; rw [if_pos he, if_neg hlen]
      have Hfl : Hid (t.fail 4 = ⟨[], 4⟩) := by
        show t.fail 4 = _
        unfold Rs.fail; rw [if_pos he]
      clear he
      have hlen' : t.b.length < n := by omega
      go_enter Try.func141, Try.ntmps141
      go_wp2_with fail
      refine HC.out.mono ?_
      rintro e w1 ⟨rfl, hto⟩
      obtain ⟨⟨r1, hr1, hr1'⟩, ho1⟩ := id hto
      obtain ⟨a, cap, hb, hl, h1, h2, h3, h4, h5⟩ := id hr1
      have hc := hb.cell (i := 0) rfl
      clear h3
      go_wp2_with fail
      refine (err_any hr1).mono ?_
      rintro e w' ⟨rfl, rfl⟩
      go_wp2_with fail
      refine ((fail_any 4 hr1).mono (R' := fun e w' => e = .returned (.tuple #[]) ∧ RdTo w1 w' B r1 ⟨[], 4⟩) (fun e w' h => by rw [← Hfl.out]; exact h)).mono ?_
      rintro e w2 ⟨rfl, hto2⟩
      obtain ⟨⟨r2, hr2, hr2'⟩, ho2⟩ := id hto2
      go_wp2_with fail
      refine (err_any hr2).mono ?_
      rintro e w' ⟨rfl, rfl⟩
      go_wp2_with fail
      go_ret
      rw [Hf.out]
      exact ⟨rfl, hto.trans hr1' hto2⟩
  · have he0 : (t.e == 0) = false := by simp [he]
    have he1 : (t.e != 0) = true := by simp [he]
    have Hf : Hid (s.text most = ([], t)) := by
      show s.text most = _
      unfold Rs.text; simp only [← Ht.out]; rw [if_neg he]
    clear he
    go_enter Try.func141, Try.ntmps141
    go_wp2_with fail
    refine HC.out.mono ?_
    rintro e w1 ⟨rfl, hto⟩
    obtain ⟨⟨r1, hr1, hr1'⟩, ho1⟩ := id hto
    go_wp2_with fail
    refine (err_any hr1).mono ?_
    rintro e w' ⟨rfl, rfl⟩
    go_wp2_with fail
    refine (err_any hr1).mono ?_
    rintro e w' ⟨rfl, rfl⟩
    go_wp2_with fail
    go_ret
    rw [Hf.out]
    exact ⟨rfl, hto⟩
end
theorem read_any (a : Option Addr) (cap : Nat) (bs : List UInt8) (w : World) (hl : Lies w a (ub bs)) (hlen : bs.length ≤ 1099511627776) :
    Calls Try.prog 73 #[.slice a bs.length cap] w fun e w' => ∃ B r, e = .returned (.pointer (some ⟨B, 0, none⟩)) ∧ w.heap.size ≤ B ∧ (∀ k, r = some k → w.heap.size ≤ k) ∧ Rd w' B r ⟨bs, 0⟩ ∧ Pure w w' := by
  go_enter Try.func73, Try.ntmps73
  go_wp2_with fail
  refine (clone_bytes a cap bs _ hl hlen).mono ?_
  rintro e w1 ⟨⟨a2, cap2, rfl, hrow2, h1, h2⟩, ho⟩
  go_wp2
  go_ret
  refine ⟨w1.heap.size, ablk a2, rfl, ho.size, h2, ⟨a2, cap2, Blk.new w1 _ _, hrow2.lies.alloc _, hrow2.2.1, hrow2.2.2.1, rfl, ?_, hlen⟩, ho.alloc _⟩
  intro h
  have := hrow2.lt _ h
  omega
end Go.Proofs.Ytchmcjimnliodaa
end
section
set_option linter.unusedSimpArgs false
set_option linter.unusedVariables false
/- crc: what step and More give. -/
namespace Go.Proofs.Ytchmcjimnliodaa
open Go.RowKit
set_option maxRecDepth 100000
theorem bv_xor (a b : BitVec 32) : bits .xor .u32 (a.toNat : Int) (b.toNat : Int) = ((a ^^^ b).toNat : Int) := by
  rw [bits_xor .u32 rfl _ _ a.isLt b.isLt, BitVec.toNat_xor]
theorem bv_shr (a : BitVec 32) : (a.toNat : Int) / (2 : Int) = ((a >>> 1).toNat : Int) := by
  rw [BitVec.toNat_ushiftRight, Nat.shiftRight_eq_div_pow]; omega
theorem bv_odd (a : BitVec 32) : (bits .and .u32 (a.toNat : Int) 1 == 1) = a.getLsbD 0 := by
  have e : bits .and .u32 (a.toNat : Int) 1 = ((a.toNat % 2 : Nat) : Int) := by
    rw [show (1 : Int) = ((1 : Nat) : Int) from rfl, bits_and .u32 rfl _ 1 a.isLt (by decide)]
    congr 1
    exact Nat.and_two_pow_sub_one_eq_mod a.toNat 1
  rw [e, BitVec.getLsbD, Nat.testBit_zero, Bool.eq_iff_iff]
  simp
  omega
theorem bv_byte (b : UInt8) : (b.toNat : Int) = ((BitVec.ofNat 32 b.toNat).toNat : Int) := by
  have := b.toNat_lt
  rw [BitVec.toNat_ofNat]; omega
theorem step_any (s : BitVec 32) (b : UInt8) (w : World) : Calls Try.prog 104 #[.int .u32 s.toNat, .int .u8 b.toNat] w fun e w' => e = .returned (.int .u32 (cstep s b).toNat) ∧ w = w' := by
  have hb := b.toNat_lt
  have hx : bits .xor .u32 (s.toNat : Int) (b.toNat : Int) = ((cbits 0 (s ^^^ BitVec.ofNat 32 b.toNat)).toNat : Int) := by rw [bv_byte b, bv_xor]; rfl
  have Hx := Lib.hid hx
  have hs0 : 0 ≤ (s.toNat : Int) := by omega
  clear hx
  obtain ⟨n, hn⟩ : ∃ n : Nat, n = s.toNat := ⟨_, rfl⟩
  go_enter Try.func104, Try.ntmps104
  go_wp2
  go_loop [0, 9] (fun v i => ∃ k : Nat, k ≤ 8 ∧ i = .int .i64 k ∧ v = .int .u32 (cbits k (s ^^^ BitVec.ofNat 32 b.toNat)).toNat) (fun _ i => 8 - (intOf i).toNat)
  case atStart => exact ⟨0, by omega, rfl, by rw [Hx.out]⟩
  case round =>
    obtain ⟨k, hk, rfl, hv⟩ := hrel
    obtain ⟨z, hz⟩ : ∃ z, z = cbits k (s ^^^ BitVec.ofNat 32 b.toNat) := ⟨_, rfl⟩
    rw [← hz] at hv
    subst hv
    have Hz := Lib.hid hz
    clear hz
    by_cases hodd : z.getLsbD 0 = true
    · have ho := (bv_odd z).trans hodd
      have Hodd := Lib.hid hodd
      clear hodd
      go_wp2
      · go_round
        case rel =>
          refine ⟨k + 1, by omega, by go_num, ?_⟩
          have e : cbits (k + 1) (s ^^^ BitVec.ofNat 32 b.toNat) = (z >>> 1) ^^^ 3988292384#32 := by
            show cbit (cbits k _) = _
            rw [← Hz.out, cbit, if_pos Hodd.out]
          rw [e, bv_shr, ← bv_xor]; rfl
        case measure => simp [intOf]; omega
      · have : k = 8 := by omega
        subst this
        go_ret
        exact ⟨congrArg (fun x : BitVec 32 => Ending.returned (.int .u32 x.toNat)) Hz.out, rfl⟩
    · have ho := (bv_odd z).trans (Bool.eq_false_iff.2 hodd)
      have Hodd := Lib.hid hodd
      clear hodd
      go_wp2
      · go_round
        case rel =>
          refine ⟨k + 1, by omega, by go_num, ?_⟩
          have e : cbits (k + 1) (s ^^^ BitVec.ofNat 32 b.toNat) = z >>> 1 := by
            show cbit (cbits k _) = _
            rw [← Hz.out, cbit, if_neg Hodd.out]
          rw [e, bv_shr]
        case measure => simp [intOf]; omega
      · have : k = 8 := by omega
        subst this
        go_ret
        exact ⟨congrArg (fun x : BitVec 32 => Ending.returned (.int .u32 x.toNat)) Hz.out, rfl⟩
theorem bv_not (s : BitVec 32) : bits .xor .u32 IntKind.u32.max (s.toNat : Int) = ((~~~s).toNat : Int) := by
  have e : IntKind.u32.max = ((BitVec.allOnes 32).toNat : Int) := by decide
  rw [e, bv_xor, BitVec.allOnes_xor]
theorem more_any (s : BitVec 32) (a : Option Addr) (cap : Nat) (bs : List UInt8) (w : World) (hl : Lies w a (ub bs)) (hlen : bs.length ≤ 1099511627776) :
    Calls Try.prog 60 #[.int .u32 s.toNat, .slice a bs.length cap] w fun e w' => e = .returned (.int .u32 (more s bs).toNat) ∧ w = w' := by
  obtain ⟨z0, hz0⟩ : ∃ z0, z0 = ~~~s := ⟨_, rfl⟩
  have hn := bv_not s
  rw [← hz0] at hn
  have Hn := Lib.hid hn
  have Hz0 := Lib.hid hz0
  clear hn hz0
  go_enter Try.func60, Try.ntmps60
  go_wp2
  rw [Hn.out]
  go_loop [0, 6, 11] (fun v _ i => ∃ k : Nat, k ≤ bs.length ∧ i = .int .i64 k ∧ v = .int .u32 ((bs.take k).foldl cstep z0).toNat) (fun _ _ i => bs.length - (intOf i).toNat)
  case atStart => exact ⟨0, by omega, rfl, rfl⟩
  case round =>
    obtain ⟨k, hk, rfl, hv⟩ := hrel
    obtain ⟨z, hz⟩ : ∃ z, z = (bs.take k).foldl cstep z0 := ⟨_, rfl⟩
    rw [← hz] at hv
    subst hv
    have Hz := Lib.hid hz
    clear hz
    by_cases hlt : k < bs.length
    · obtain ⟨b, o, ha, _, hc⟩ := hl.addr (by intro h; rw [← ub_length, h] at hlt; simp at hlt)
      have hck := hc k _ (ub_at hlt)
      subst ha
      clear hc hl
      go_wp2_with fail
      refine (step_any z bs[k] _).mono ?_
      rintro e w' ⟨rfl, rfl⟩
      go_wp2
      go_round
      case rel =>
        refine ⟨k + 1, by omega, by go_num, ?_⟩
        rw [List.take_succ_eq_append_getElem hlt, List.foldl_append, ← Hz.out]
        rfl
      case measure => simp [intOf]; omega
    · have : k = bs.length := by omega
      subst this
      have hm := bv_not z
      have Hm := Lib.hid hm
      clear hm hl
      go_wp2
      go_ret
      refine ⟨congrArg (fun x : Int => Ending.returned (.int .u32 x)) (Hm.out.trans ?_), rfl⟩
      rw [more, Hz.out, List.take_length, Hz0.out]
theorem four_any (s : BitVec 32) (w : World) : Calls Try.prog 103 #[.int .u32 s.toNat] w fun e w' => Made w w' 5 1 4 (ub (four s)) False e := by
  go_enter Try.func103, Try.ntmps103
  go_wp2
  go_ret
  refine ⟨⟨_, 4, rfl, ?_, by simp, by simp [ablk]⟩, (Only.refl _ _).alloc _⟩
  have h := Row.of_blk (Blk.new w (ub (four s)).toArray 5) (n := 4) (size := 1) rfl (by simp [maxLen])
  have e : (ub (four s)).toArray = #[Value.int .u8 ((s.toNat : Int) % 256), Value.int .u8 ((s.toNat : Int) / 256 % 256), Value.int .u8 ((s.toNat : Int) / 65536 % 256), Value.int .u8 ((s.toNat : Int) / 16777216)] := by
    have := s.isLt
    simp [ub, four]
    omega
  rw [e] at h
  have e2 : ub (four s) = (ub (four s)).toArray.toList := by simp
  rw [e2, e]
  exact h
end Go.Proofs.Ytchmcjimnliodaa
end
section
set_option linter.unusedSimpArgs false
set_option linter.unusedVariables false
/- frame: what its functions give. -/
namespace Go.Proofs.Ytchmcjimnliodaa
open Go.RowKit
set_option maxRecDepth 100000

/-- slices.Equal of bytes. -/
theorem equal_any (a b : Option Addr) (ca cb : Nat) (xs ys : List UInt8) (w : World) (hx : Lies w a (ub xs)) (hy : Lies w b (ub ys)) (hlx : xs.length ≤ 1099511627776) (hly : ys.length ≤ 1099511627776) :
    Calls Try.prog 107 #[.slice a xs.length ca, .slice b ys.length cb] w fun e w' => e = .returned (.bool (xs == ys)) ∧ ∃ n, w' = w.drewN n := by
  by_cases hne : xs.length = ys.length
  · have hne' : (((xs.length : Nat) : Int) != ((ys.length : Nat) : Int)) = false := by simp [hne]
    have Hne0 := Lib.hid hne
    clear hne
    go_enter Try.func107, Try.ntmps107
    go_wp2
    go_loopw [5, 13] (fun _ i wr => ∃ k n : Nat, k ≤ xs.length ∧ i = .int .i64 k ∧ xs.take k = ys.take k ∧ wr = w.drewN n) (fun _ i _ => xs.length - (intOf i).toNat)
    case atStart => exact ⟨0, 0, by omega, rfl, rfl, rfl⟩
    case round =>
      obtain ⟨k, n, hk, rfl, htk, rfl⟩ := hrel
      have hne := Hne0.out
      by_cases hlt : k < xs.length
      · obtain ⟨bx, ox, rfl, _, hcx⟩ := hx.addr (by intro h; rw [← ub_length, h] at hlt; simp at hlt)
        obtain ⟨by_, oy, rfl, _, hcy⟩ := hy.addr (by intro h; rw [hne, ← ub_length, h] at hlt; simp at hlt)
        have hkx := hcx k _ (ub_at hlt)
        have hlt2 : k < ys.length := by omega
        have hky := hcy k _ (ub_at hlt2)
        obtain ⟨p, hp⟩ : ∃ p : Nat, p = xs[k].toNat := ⟨_, rfl⟩
        obtain ⟨q, hq⟩ : ∃ q : Nat, q = ys[k].toNat := ⟨_, rfl⟩
        rw [← hp] at hkx
        rw [← hq] at hky
        have Hp := Lib.hid hp
        have Hq := Lib.hid hq
        have Htk := Lib.hid htk
        have i0 : (0 : Int) ≤ (k : Int) := by omega
        have i1 : (k : Int) < (xs.length : Int) := by omega
        have i2 : (k : Int) < (ys.length : Int) := by omega
        have hne2 := Lib.hid hne
        clear hp hq htk hcx hcy hx hy hne
        by_cases hpq : p = q
        · have hpq' : ((p : Int) != (q : Int)) = false := by simp [hpq]
          have Hpq := Lib.hid hpq
          clear hpq
          go_wp2
          go_quiet (fail)
          go_wp2
          go_roundw
          case rel =>
            refine ⟨k + 1, n + nq, by omega, by go_num, ?_, rfl⟩
            rw [List.take_succ_eq_append_getElem hlt, List.take_succ_eq_append_getElem hlt2, Htk.out]
            have := Hpq.out; have := Hp.out; have := Hq.out
            congr 2
            exact UInt8.toNat_inj.1 (by omega)
          case measure => simp [intOf]; omega
        · have hpq' : ((p : Int) != (q : Int)) = true := by simp; omega
          have Hpq := Lib.hid hpq
          clear hpq
          go_wp2
          go_quiet (fail)
          go_wp2
          go_ret
          refine ⟨?_, n + nq, World.drewN_drewN ..⟩
          have hf : (xs == ys) = false := by
            rw [beq_eq_false_iff_ne]
            intro h
            subst h
            exact Hpq.out (by rw [Hp.out, Hq.out])
          rw [hf]; rfl
      · have : k = xs.length := by omega
        subst this
        have Htk := Lib.hid htk
        have Hne := Lib.hid hne
        clear htk hx hy hne
        go_wp2
        go_ret
        refine ⟨?_, _, rfl⟩
        have hf : (xs == ys) = true := by
          rw [beq_iff_eq]
          have := Htk.out
          rwa [List.take_length, Hne.out, List.take_length] at this
        rw [hf]; rfl
  · have hne' : (((xs.length : Nat) : Int) != ((ys.length : Nat) : Int)) = true := by simp; omega
    have Hne := Lib.hid hne
    clear hne
    go_enter Try.func107, Try.ntmps107
    go_wp2
    go_ret
    refine ⟨?_, 0, rfl⟩
    have hf : (xs == ys) = false := by
      rw [beq_eq_false_iff_ne]
      intro h
      subst h
      exact Hne.out rfl
    rw [hf]; rfl
set_option maxHeartbeats 400000 in
theorem head_any (k : UInt8) (d : List UInt8) (a : Option Addr) (cap : Nat) (w : World) (hl : Lies w a (ub d)) (hlen : d.length ≤ 1048576) :
    Calls Try.prog 89 #[.agg #[.int .u8 k.toNat, .slice a d.length cap]] w fun e w' => ∃ z, Made w w' 5 1 (headb ⟨k, d⟩).length (ub (headb ⟨k, d⟩)) z e := by
  have hn := num_length10 (x := d.length) (by omega)
  obtain ⟨L, hL⟩ : ∃ L, L = headb ⟨k, d⟩ := ⟨_, rfl⟩
  rw [← hL]
  have HL := Lib.hid hL
  clear hL
  have hbx := Blk.new w #[.int .u8 k.toNat, .slice a d.length cap] 29
  have hwr : Wr ((w.alloc (.cells #[.int .u8 k.toNat, .slice a d.length cap] 29)).alloc (.cells #[.slice none 0 0] 127)) (w.heap.size + 1) none [] :=
    ⟨none, 0, by have := Blk.new (w.alloc (.cells #[.int .u8 k.toNat, .slice a d.length cap] 29)) #[.slice none 0 0] 127; simpa using this, Row.nil _ _ _, rfl⟩
  have hbx2 := (hbx.alloc (.cells #[.slice none 0 0] 127)).alloc (.cells #[.int .u8 (197 : Int), .int .u8 k.toNat] 5)
  have hc0 := hbx.cell (i := 0) rfl
  have hlit : Lies (((w.alloc (.cells #[.int .u8 k.toNat, .slice a d.length cap] 29)).alloc (.cells #[.slice none 0 0] 127)).alloc (.cells #[.int .u8 (197 : Int), .int .u8 k.toNat] 5)) (some ⟨w.heap.size + 1 + 1, 0, none⟩) (ub [197, k]) :=
    (Blk.new' (by simp) #[.int .u8 (197 : Int), .int .u8 k.toNat] 5).lies
  go_enter Try.func89, Try.ntmps89
  go_wp2_with fail
  refine (raw_any (w.heap.size + 1) none [] [197, k] _ 2 _ (hwr.only ((Only.refl (fun _ => False) _).alloc _) id (by simp)) hlit (by simp)).mono ?_
  rintro e w1 ⟨rfl, hto1⟩
  obtain ⟨⟨r1, hw1, hr1⟩, ho1⟩ := id hto1
  have hbx3 := hbx2.only ho1 (by simp)
  have hc1 := hbx3.cell (i := 1) rfl
  go_wp2_with fail
  refine (num_any _ r1 _ d.length _ hw1 (by omega) (by simp)).mono ?_
  rintro e w2 ⟨rfl, hto2⟩
  obtain ⟨⟨r2, hw2, hr2⟩, ho2⟩ := id hto2
  have hp1 : Pure w w1 := ((((Only.refl (fun _ => False) w).alloc _).alloc _).alloc _).trans ho1 (by intro i hi h; simp at h; omega)
  have hp2 : Pure w w2 := hp1.trans ho2 (by
    intro i hi h
    rcases h with h | h
    · omega
    · rcases hr1 with rfl | ⟨k, rfl, hk⟩
      · simp at h
      · simp at h hk; omega)
  have hn1 : ∀ k, r1 = some k → w.heap.size + 3 ≤ k := by
    intro k hk
    rcases hr1 with rfl | ⟨k', rfl, hk'⟩
    · simp at hk
    · simp at hk hk'; omega
  have hbx4 := hbx3.only ho2 (by
    intro h
    rcases h with h | h
    · omega
    · have := hn1 _ h; omega)
  have hc2 := hbx4.cell (i := 1) rfl
  have hs12 := ho1.size
  simp at hs12
  clear hc1
  go_wp2_with fail
  refine (raw_any _ r2 _ d a cap _ hw2 (hl.pure hp2) (by simp; omega)).mono ?_
  rintro e w3 ⟨rfl, hto3⟩
  obtain ⟨⟨r3, hw3, hr3⟩, ho3⟩ := id hto3
  have hn2 : ∀ k, r2 = some k → w.heap.size + 3 ≤ k := by
    intro k hk
    rcases hr2 with rfl | ⟨k', rfl, hk'⟩
    · exact hn1 k hk
    · simp at hk; omega
  have hp3 : Pure w w3 := hp2.trans ho3 (by
    intro i hi h
    rcases h with h | h
    · omega
    · have := hn2 _ h; omega)
  clear hc2
  go_wp2_with fail
  have e1 : [] ++ [197, k] ++ num d.length ++ d = L := by rw [HL.out]; simp [headb]
  have hLl : L.length ≤ 1099511627776 := by rw [← e1]; simp; omega
  rw [e1] at hw3
  have He1 := Lib.hid e1
  clear e1 hto3
  refine (bytes_any _ r3 L _ hw3 hLl).mono ?_
  rintro e w4 ⟨z, ⟨a4, cap4, rfl, hrow4, hz4, hf4⟩, ho4⟩
  go_wp2_with fail
  go_ret
  exact ⟨z, ⟨a4, cap4, rfl, hrow4, hz4, fun k hk => Nat.le_trans hp3.size (hf4 k hk)⟩, hp3.trans ho4 (fun _ _ h => h)⟩

theorem size_any (k : UInt8) (d : List UInt8) (a : Option Addr) (cap : Nat) (w : World) (hl : Lies w a (ub d)) (hlen : d.length ≤ 1048576) :
    Calls Try.prog 42 #[.agg #[.int .u8 k.toNat, .slice a d.length cap]] w fun e w' => e = .returned (.int .i64 ((headb ⟨k, d⟩).length + 4 : Nat)) ∧ Pure w w' := by
  have hb := Blk.new w #[.int .u8 k.toNat, .slice a d.length cap] 29
  have hc0 := hb.cell (i := 0) rfl
  have hc1 := hb.cell (i := 1) rfl
  have hn := num_length10 (x := d.length) (by omega)
  obtain ⟨n, hn2⟩ : ∃ n, n = (headb ⟨k, d⟩).length := ⟨_, rfl⟩
  have hle : n ≤ 2097152 := by rw [hn2]; simp [headb]; omega
  have Hn := Lib.hid hn2
  clear hn2
  have hh := (head_any k d a cap (w.alloc (.cells #[.int .u8 k.toNat, .slice a d.length cap] 29)) (hl.alloc _) hlen).mono (R' := fun e w' => ∃ z, Made (w.alloc (.cells #[.int .u8 k.toNat, .slice a d.length cap] 29)) w' 5 1 n (ub (headb ⟨k, d⟩)) z e) (fun e w' h => by rw [Hn.out]; exact h)
  have HH := Lib.hid hh
  clear hh
  rw [← Hn.out]
  go_enter Try.func42, Try.ntmps42
  go_wp2_with fail
  refine HH.out.mono ?_
  rintro e w4 ⟨z, ⟨a4, cap4, rfl, hrow4, hz4, hf4⟩, ho4⟩
  go_wp2_with fail
  go_ret
  exact ⟨rfl, ((Only.refl _ _).alloc _).trans ho4 (fun _ _ h => h)⟩
/-- What frame.Bytes gives. -/
def FBytes (w w' : World) (s : BitVec 32) (r : Rec) (e : Ending) : Prop :=
  Pure w w' ∧ if 1024 < r.d.length then e = .returned (.tuple #[.slice none 0 0, .int .u32 0, .int .i64 15])
    else ∃ a cap, e = .returned (.tuple #[.slice a (frameb s r).length cap, .int .u32 (frameSum s r).toNat, .int .i64 0]) ∧ Row w' 5 1 a (frameb s r).length cap (ub (frameb s r)) ∧ ∀ k, ablk a = some k → w.heap.size ≤ k
theorem fbytes_any (s : BitVec 32) (k : UInt8) (d : List UInt8) (a : Option Addr) (cap : Nat) (w : World) (hl : Lies w a (ub d)) (hlen : d.length ≤ 1048576) :
    Calls Try.prog 58 #[.int .u32 s.toNat, .agg #[.int .u8 k.toNat, .slice a d.length cap]] w fun e w' => FBytes w w' s ⟨k, d⟩ e := by
  have hb := Blk.new w #[.int .u8 k.toNat, .slice a d.length cap] 29
  have hc0 := hb.cell (i := 0) rfl
  have hc1 := hb.cell (i := 1) rfl
  by_cases h : 1024 < d.length
  · have h' : (1024 : Int) < (d.length : Int) := by omega
    have Hp : Hid ((Only.refl (fun _ => False) w).alloc (.cells #[.int .u8 k.toNat, .slice a d.length cap] 29) = (Only.refl (fun _ => False) w).alloc (.cells #[.int .u8 k.toNat, .slice a d.length cap] 29)) := rfl
    go_enter Try.func58, Try.ntmps58
    go_wp2_with fail
    go_ret3
    refine ⟨(Only.refl _ _).alloc _, ?_⟩
    rw [if_pos h]; rfl
  · have h' : ¬ (1024 : Int) < (d.length : Int) := by omega
    have hn := num_length10 (x := d.length) (by omega)
    obtain ⟨L, hL⟩ : ∃ L, L = headb ⟨k, d⟩ := ⟨_, rfl⟩
    have hle : L.length ≤ 2097152 := by rw [hL]; simp [headb]; omega
    have HL := Lib.hid hL
    clear hL
    have hh := (head_any k d a cap (w.alloc (.cells #[.int .u8 k.toNat, .slice a d.length cap] 29)) (hl.alloc _) hlen).mono (R' := fun e w' => ∃ z, Made (w.alloc (.cells #[.int .u8 k.toNat, .slice a d.length cap] 29)) w' 5 1 L.length (ub L) z e) (fun e w' h => by rw [HL.out]; exact h)
    have HH := Lib.hid hh
    clear hh
    go_enter Try.func58, Try.ntmps58
    go_wp2_with fail
    refine HH.out.mono ?_
    rintro e w1 ⟨z, ⟨a1, cap1, rfl, hrow1, hz1, hf1⟩, ho1⟩
    go_wp2_with fail
    refine (more_any s a1 cap1 L _ hrow1.lies (by omega)).mono ?_
    rintro e w' ⟨rfl, rfl⟩
    go_wp2_with fail
    refine (four_any _ _).mono ?_
    rintro e w2 ⟨⟨a2, cap2, rfl, hrow2, hz2, hf2⟩, ho2⟩
    go_wp2_with (at_builtin; refine Stop.in ?_)
    refine Stop.out ?_
    refine wpList_app_bytes _ rfl _ _ rfl el24 a1 L.length cap1 L rfl (hrow1.only ho2 (by simp)) a2 4 cap2 (four (more s L)) rfl hrow2.lies rfl (by omega) ?_
    intro a3 cap3 w3 hrow3 ho3 hat3
    go_wp2
    go_ret3
    have hp2 : Pure w w2 := (((Only.refl (fun _ => False) w).alloc _).trans ho1 (fun _ _ h => h)).trans ho2 (fun _ _ h => h)
    have hf1' : ∀ k, ablk a1 = some k → w.heap.size ≤ k := by
      intro k hk
      have := hf1 k hk
      simp at this; omega
    have hp3 : Pure w w3 := hp2.trans ho3 (by intro i hi h; have := hf1' i h; omega)
    refine ⟨hp3, ?_⟩
    rw [if_neg h]
    have e1 : frameb s ⟨k, d⟩ = L ++ four (more s L) := by rw [frameb, ← HL.out]
    have e2 : frameSum s ⟨k, d⟩ = more s L := by rw [frameSum, ← HL.out]
    rw [e1, e2]
    refine ⟨a3, cap3, by simp [four_length], by simpa [four_length] using hrow3, ?_⟩
    intro k hk
    rcases hat3 with h | h
    · exact hf1' k (by rw [← h]; exact hk)
    · rw [h] at hk; simp at hk; have := hp2.size; omega
end Go.Proofs.Ytchmcjimnliodaa
end
section
set_option linter.unusedSimpArgs false
set_option linter.unusedVariables false
/- frame.Next: the record that bytes begin with. -/
namespace Go.Proofs.Ytchmcjimnliodaa
open Go.RowKit
set_option maxRecDepth 100000

/-- What frame.Next gives. -/
def FNext (w w' : World) (s : BitVec 32) (b : List UInt8) (e : Ending) : Prop :=
  Pure w w' ∧ match nxt s b with
    | .error er => e = .returned (.tuple #[.agg #[.int .u8 0, .slice none 0 0], .int .i64 0, .int .u32 0, .int .i64 er])
    | .ok (r, n, s') => ∃ a cap, e = .returned (.tuple #[.agg #[.int .u8 r.k.toNat, .slice a r.d.length cap], .int .i64 n, .int .u32 s'.toNat, .int .i64 0]) ∧ Row w' 5 1 a r.d.length cap (ub r.d) ∧ ∀ k, ablk a = some k → w.heap.size ≤ k
theorem FNext.err {w w' : World} {s : BitVec 32} {b : List UInt8} {er : Int} (hp : Pure w w') (h : nxt s b = .error er) : FNext w w' s b (.returned (.tuple #[.agg #[.int .u8 0, .slice none 0 0], .int .i64 0, .int .u32 0, .int .i64 er])) := by
  refine ⟨hp, ?_⟩; rw [h]
theorem next_nil (s : BitVec 32) (a : Option Addr) (cap : Nat) (w : World) : Calls Try.prog 63 #[.int .u32 s.toNat, .slice a 0 cap] w fun e w' => FNext w w' s [] e := by
  go_enter Try.func63, Try.ntmps63
  go_wp2
  refine bodyPost_ret (v := .tuple #[.agg #[.int .u8 0, .slice none 0 0], .int .i64 0, .int .u32 0, .int .i64 4]) (by simp [results, Try.results63, go_sem]) rfl ?_
  exact FNext.err ((Only.refl _ _).alloc _) rfl
theorem next_mark (s : BitVec 32) (a : Option Addr) (cap : Nat) (c : UInt8) (t : List UInt8) (w : World) (hl : Lies w a (ub (c :: t))) (hc : c ≠ 197) :
    Calls Try.prog 63 #[.int .u32 s.toNat, .slice a (t.length + 1) cap] w fun e w' => FNext w w' s (c :: t) e := by
  obtain ⟨b, o, rfl, hbl, hcell⟩ := hl.addr (by simp [ub])
  have hc0 : w.cell? ⟨b, o, none⟩ = some (.int .u8 c.toNat) := hcell 0 _ rfl
  have hne : ((c.toNat : Int) != 197) = true := by
    rw [bne_iff_ne]; intro h; exact hc (UInt8.toNat_inj.1 (by simpa using (by omega : c.toNat = 197)))
  have Hc := Lib.hid hc
  clear hcell hl hc
  go_enter Try.func63, Try.ntmps63
  go_wp2
  refine bodyPost_ret (v := .tuple #[.agg #[.int .u8 0, .slice none 0 0], .int .i64 0, .int .u32 0, .int .i64 2]) (by simp [results, Try.results63, go_sem]) rfl ?_
  exact FNext.err ((Only.refl _ _).alloc _) (by unfold nxt; exact if_pos Hc.out)
theorem next_one (s : BitVec 32) (a : Option Addr) (cap : Nat) (w : World) (hl : Lies w a (ub [197])) :
    Calls Try.prog 63 #[.int .u32 s.toNat, .slice a 1 cap] w fun e w' => FNext w w' s [197] e := by
  obtain ⟨b, o, rfl, hbl, hcell⟩ := hl.addr (by simp [ub])
  have hc0 : w.cell? ⟨b, o, none⟩ = some (.int .u8 197) := hcell 0 _ rfl
  clear hcell hl
  go_enter Try.func63, Try.ntmps63
  go_wp2
  refine bodyPost_ret (v := .tuple #[.agg #[.int .u8 0, .slice none 0 0], .int .i64 0, .int .u32 0, .int .i64 4]) (by simp [results, Try.results63, go_sem]) rfl ?_
  exact FNext.err ((Only.refl _ _).alloc _) rfl
theorem equal_any2 (a b : Option Addr) (n m ca cb : Nat) (xs ys : List UInt8) (w : World) (hn : xs.length = n) (hm : ys.length = m) (hx : Lies w a (ub xs)) (hy : Lies w b (ub ys)) (hlx : n ≤ 1099511627776) (hly : m ≤ 1099511627776) :
    Calls Try.prog 107 #[.slice a n ca, .slice b m cb] w fun e w' => e = .returned (.bool (xs == ys)) ∧ ∃ n, w' = w.drewN n := by
  subst hn; subst hm; exact equal_any a b ca cb xs ys w hx hy hlx hly
theorem more_any2 (s : BitVec 32) (a : Option Addr) (n cap : Nat) (bs : List UInt8) (w : World) (hn : bs.length = n) (hl : Lies w a (ub bs)) (hlen : n ≤ 1099511627776) :
    Calls Try.prog 60 #[.int .u32 s.toNat, .slice a n cap] w fun e w' => e = .returned (.int .u32 (more s bs).toNat) ∧ w = w' := by
  subst hn; exact more_any s a cap bs w hl hlen
theorem clone_bytes2 (a : Option Addr) (n cap : Nat) (bs : List UInt8) (w : World) (hn : bs.length = n) (hl : Lies w a (ub bs)) (hlen : n ≤ 1099511627776) :
    Calls Try.prog 61 #[.slice a n cap] w fun e w' => Made w w' 5 1 n (ub bs) (a = none) e := by
  subst hn; exact clone_bytes a cap bs w hl hlen
theorem read_any2 (a : Option Addr) (n cap : Nat) (bs : List UInt8) (w : World) (hn : bs.length = n) (hl : Lies w a (ub bs)) (hlen : n ≤ 1099511627776) :
    Calls Try.prog 73 #[.slice a n cap] w fun e w' => ∃ B r, e = .returned (.pointer (some ⟨B, 0, none⟩)) ∧ w.heap.size ≤ B ∧ (∀ k, r = some k → w.heap.size ≤ k) ∧ Rd w' B r ⟨bs, 0⟩ ∧ Pure w w' := by
  subst hn; exact read_any a cap bs w hl hlen
set_option maxHeartbeats 1000000 in
theorem next_two (s : BitVec 32) (a : Option Addr) (k : UInt8) (w : World) (hl : Lies w a (ub [197, k])) :
    Calls Try.prog 63 #[.int .u32 s.toNat, .slice a 2 2] w fun e w' => FNext w w' s [197, k] e := by
  obtain ⟨b, o, rfl, hbl, hcell⟩ := hl.addr (by simp [ub])
  have hc0 : w.cell? ⟨b, o, none⟩ = some (.int .u8 197) := hcell 0 _ rfl
  have hcnt : Rs.count ⟨[], 0⟩ 1024 = (0, ⟨[], 4⟩) := by simp [Rs.count, Rs.num, dec]; omega
  have Hc := Lib.hid hcnt
  clear hcnt hcell hl
  go_enter Try.func63, Try.ntmps63
  go_wp2_with fail
  refine (read_any2 _ 0 0 [] _ rfl (Lies.nil _ _) (by simp)).mono ?_
  rintro e w1 ⟨B, r, rfl, hB, hr, hrd, hp⟩
  go_wp2_with fail
  refine ((count_any 1024 (by decide) (by decide) hrd).mono (R' := fun e w' => e = .returned (.int .i64 0) ∧ RdTo w1 w' B r ⟨[], 4⟩) (fun e w' h => by rw [Hc.out] at h; exact h)).mono ?_
  rintro e w2 ⟨rfl, hto2⟩
  obtain ⟨⟨r2, hr2, hr2'⟩, ho2⟩ := id hto2
  have hb0 : Blk w2 w.heap.size #[.int .u8 0, .slice none 0 0] 29 := ((Blk.new w #[.int .u8 0, .slice none 0 0] 29).only hp id).only ho2 (by simp at hB; omega)
  have hp2 : Pure w w2 := (((Only.refl (fun _ => False) w).alloc _).trans hp (fun _ _ h => h)).trans ho2 (by intro i hi h; simp at hB; omega)
  have h0 := hb0.cell (i := 0) rfl
  have h1 := hb0.cell (i := 1) rfl
  have f0 := hb0.frozen 0
  have f1 := hb0.frozen 1
  go_wp2_with fail
  refine (err_any hr2).mono ?_
  rintro e w' ⟨rfl, rfl⟩
  go_wp2_with fail
  have hbF := (hb0.set 0 (.int .u8 0)).set 1 (.slice none 0 0)
  have hF0 := hbF.cell (i := 0) rfl
  have hF1 := hbF.cell (i := 1) rfl
  refine bodyPost_ret (v := .tuple #[.agg #[.int .u8 0, .slice none 0 0], .int .i64 0, .int .u32 0, .int .i64 4]) (by simp [results, Try.results63, go_sem, hF0, hF1]) rfl ?_
  exact FNext.err ((hp2.setCell (fun h => by simp at h) _).setCell (fun h => by simp at h) _) rfl
set_option maxHeartbeats 2000000 in
theorem next_more (s : BitVec 32) (a : Option Addr) (cap : Nat) (k : UInt8) (t : List UInt8) (w : World) (hl : Lies w a (ub (197 :: k :: t))) (hcap : t.length + 2 ≤ cap) (hc2 : ¬ cap = 2) (_hcap2 : cap ≤ maxLen) (hlen : t.length ≤ 1048576) :
    Calls Try.prog 63 #[.int .u32 s.toNat, .slice a (t.length + 2) cap] w fun e w' => FNext w w' s (197 :: k :: t) e := by
  have hdrop := hl.drop 2
  rw [← ub_drop] at hdrop
  obtain ⟨b, o, rfl, hbl, hcell⟩ := hl.addr (by simp [ub])
  have hc0 : w.cell? ⟨b, o, none⟩ = some (.int .u8 197) := hcell 0 _ rfl
  have hc1 : w.cell? ⟨b, o + 1, none⟩ = some (.int .u8 k.toNat) := hcell 1 _ rfl
  have hl2 : Lies w (some ⟨b, o + 2, none⟩) (ub t) := by simpa [Addr.add] using hdrop
  obtain ⟨n, hn⟩ : ∃ n, n = (Rs.count ⟨t, 0⟩ 1024).1 := ⟨_, rfl⟩
  obtain ⟨R, hR⟩ : ∃ R, R = (Rs.count ⟨t, 0⟩ 1024).2 := ⟨_, rfl⟩
  have Hn := Lib.hid hn
  have HR := Lib.hid hR
  have hRl : R.left ≤ t.length := by
    rw [hR]; exact Nat.le_trans (left_le _) (count_len _ _)
  have hn1024 : n ≤ 1024 := by
    have := count_le ⟨t, 0⟩ (m := 1024) (by decide)
    omega
  obtain ⟨L, hL⟩ : ∃ L, L = R.left := ⟨_, rfl⟩
  rw [← hL] at hRl
  have HL := Lib.hid hL
  clear hcell hdrop hn hR hL
  go_enter Try.func63, Try.ntmps63
  go_wp2_with fail
  refine (read_any2 (some ⟨b, o + 2, none⟩) t.length (cap - 2) t _ rfl (hl2.alloc _) (by omega)).mono ?_
  rintro e w1 ⟨B, r, rfl, hB, hr, hrd, hp⟩
  go_wp2_with fail
  refine ((count_any 1024 (by decide) (by decide) hrd).mono (R' := fun e w' => e = .returned (.int .i64 n) ∧ RdTo w1 w' B r R) (fun e w' h => by rw [Hn.out, HR.out]; exact h)).mono ?_
  rintro e w2 ⟨rfl, hto2⟩
  obtain ⟨⟨r2, hr2, hr2'⟩, ho2⟩ := id hto2
  have hb0 : Blk w2 w.heap.size #[.int .u8 0, .slice none 0 0] 29 := ((Blk.new w #[.int .u8 0, .slice none 0 0] 29).only hp id).only ho2 (by simp at hB; omega)
  have hp2 : Pure w w2 := (((Only.refl (fun _ => False) w).alloc _).trans hp (fun _ _ h => h)).trans ho2 (by intro i hi h; simp at hB; omega)
  have h0 := hb0.cell (i := 0) rfl
  have h1 := hb0.cell (i := 1) rfl
  have f0 := hb0.frozen 0
  have f1 := hb0.frozen 1
  go_wp2_with fail
  refine (err_any hr2).mono ?_
  rintro e w' ⟨rfl, rfl⟩
  by_cases he : R.e = 0
  · have he' : (R.e != 0) = false := by simp [he]
    have He := Lib.hid he
    clear he
    obtain ⟨F, hF⟩ : ∃ F : Nat, (t.length : Int) + 2 - (L : Int) = (F : Int) := ⟨t.length + 2 - L, by omega⟩
    have hF2 : F ≤ 1048578 := by omega
    go_wp2_with fail
    refine ((left_any hr2).mono (R' := fun e w' => e = .returned (.int .i64 L) ∧ w2 = w') (fun e w' h => by rw [HL.out]; exact h)).mono ?_
    rintro e w' ⟨rfl, rfl⟩
    go_wp2_with fail
    refine ((left_any hr2).mono (R' := fun e w' => e = .returned (.int .i64 L) ∧ w2 = w') (fun e w' h => by rw [HL.out]; exact h)).mono ?_
    rintro e w' ⟨rfl, rfl⟩
    by_cases hs : L < n + 4
    · have hs' : (L : Int) < (n : Int) + 4 := by omega
      go_wp2_with fail
      have hbF := (hb0.set 0 (.int .u8 0)).set 1 (.slice none 0 0)
      have hF0 := hbF.cell (i := 0) rfl
      have hF1 := hbF.cell (i := 1) rfl
      refine bodyPost_ret (v := .tuple #[.agg #[.int .u8 0, .slice none 0 0], .int .i64 0, .int .u32 0, .int .i64 4]) (by simp [results, Try.results63, go_sem, hF0, hF1]) rfl ?_
      refine FNext.err ((hp2.setCell (fun h => by simp at h) _).setCell (fun h => by simp at h) _) ?_
      unfold nxt
      simp only [← HR.out, ← Hn.out, ← HL.out, He.out]
      simp [hs]
    · have hs' : ¬ (L : Int) < (n : Int) + 4 := by omega
      have b1 : F + n ≤ cap := by omega
      have b2 : F + n + 4 ≤ cap := by omega
      have hlen2 : (197 :: k :: t).length = t.length + 2 := rfl
      have h0w : w.heap.size ≤ w2.heap.size := hp2.size
      have hl' : Lies w2 (some ⟨b, o, none⟩) (ub (197 :: k :: t)) := hl.pure hp2
      obtain ⟨s', hs1⟩ : ∃ s', s' = more s ((197 :: k :: t).take (F + n)) := ⟨_, rfl⟩
      have Hs1 := Lib.hid hs1
      clear hs1
      obtain ⟨y4, hy4⟩ : ∃ y4, y4 = ((197 :: k :: t).drop (F + n)).take 4 := ⟨_, rfl⟩
      have hy4l : y4.length = 4 := by rw [hy4]; simp; omega
      have hl4 : Lies w2 (some ⟨b, o + (F + n), none⟩) (ub y4) := by
        have h := (hl'.drop (F + n)).take 4
        rw [← ub_drop, ← ub_take, ← hy4] at h
        rcases Nat.eq_zero_or_pos (F + n) with h0 | h0
        · omega
        · simpa [Addr.add, Nat.pos_iff_ne_zero.1 h0, show ¬ (F = 0 ∧ n = 0) by omega] using h
      have Hy4 := Lib.hid hy4
      clear hy4
      have HM := Lib.hid ((more_any2 s (some ⟨b, o, none⟩) (F + n) cap ((197 :: k :: t).take (F + n)) w2 (by simp; omega) (by rw [ub_take]; exact hl'.take _) (by omega)).mono (R' := fun e w' => e = .returned (.int .u32 s'.toNat) ∧ w2 = w') (fun e w' h => by rw [Hs1.out]; exact h))
      go_wp2_with fail
      refine HM.out.mono ?_
      rintro e w' ⟨rfl, rfl⟩
      go_wp2_with fail
      clear HM
      obtain ⟨nb, hnb⟩ : ∃ nb, nb = !(four s' == y4) := ⟨_, rfl⟩
      have Hnb := Lib.hid hnb
      clear hnb
      go_cut [67] (fun s67 wx => s67 = .bool nb ∧ Pure w2 wx)
      case first =>
        have q1 : (0 : Int) ≤ (F : Int) + (n : Int) := by omega
        have q2 : (F : Int) + (n : Int) ≤ (F : Int) + (n : Int) + 4 := by omega
        have q3 : (F : Int) + (n : Int) + 4 ≤ (cap : Int) := by omega
        have q4 : ¬ cap = F + n := by omega
        have t1 : ((F : Int) + (n : Int)).toNat = F + n := by omega
        have t2 : ((F : Int) + (n : Int) + 4).toNat = F + n + 4 := by omega
        have t3 : F + n + 4 - (F + n) = 4 := by omega
        have t4 : ¬ (F = 0 ∧ n = 0) := by omega
        have s1 : IntKind.i64.wrap ((F : Int) + (n : Int)) = (F : Int) + (n : Int) := IntWalk.i64_in _ (by omega)
        have s2 : IntKind.i64.wrap ((F : Int) + (n : Int) + 4) = (F : Int) + (n : Int) + 4 := IntWalk.i64_in _ (by omega)
        clear hcap hlen hRl hn1024 hF hF2 b1 b2 hs' hlen2 hp hp2 hb0 h0 h1 f0 f1 he' hl hl' hl2
        go_region_with (first
          | (go_at_call 103; refine (four_any s' _).mono ?_; rintro e w3 ⟨⟨a3, cap3, rfl, hrow3, hz3, hf3⟩, ho3⟩)
          | (go_at_call 107; refine (equal_any2 _ _ 4 4 _ _ (four s') y4 _ rfl hy4l (by exact hrow3.lies) (by exact hl4.drew.pure ho3) (by decide) (by decide)).mono ?_; rintro e w3 ⟨rfl, m, rfl⟩))
        all_goals (go_wp2_with fail; go_meet; exact ⟨by rw [Hnb.out], ((Only.refl (fun _ => False) w2).drew.trans ho3 (fun _ _ h => h)).drewN _⟩)
      case rest =>
        obtain ⟨rfl, hpc⟩ := hcut
        have hbc := hb0.only hpc id
        have hc0' := hbc.cell (i := 0) rfl
        have hc1' := hbc.cell (i := 1) rfl
        have fc0 := hbc.frozen 0
        have fc1 := hbc.frozen 1
        have hpw : Pure w wc := hp2.trans hpc (fun _ _ h => h)
        clear h0 h1 f0 f1
        cases nb with
        | false =>
          have hq : four s' = y4 := by
            have := Hnb.out; simpa using this
          have hk1 : wc.cell? ⟨b, o + 1, none⟩ = some (.int .u8 k.toNat) := hpw.cell hc1 id
          have hlw : Lies wc (some ⟨b, o, none⟩) (ub (197 :: k :: t)) := hl'.pure hpc
          have Hq := Lib.hid hq
          clear hq
          obtain ⟨d, hd⟩ : ∃ d, d = ((197 :: k :: t).drop F).take n := ⟨_, rfl⟩
          have hdl : d.length = n := by rw [hd]; simp; omega
          have hF0 : 0 < F := by omega
          have hld : Lies wc (some ⟨b, o + F, none⟩) (ub d) := by
            have h := (hlw.drop F).take n
            rw [← ub_drop, ← ub_take, ← hd] at h
            simpa [Addr.add, Nat.pos_iff_ne_zero.1 hF0] using h
          have Hd := Lib.hid hd
          have Hdl := Lib.hid hdl
          clear hd hdl
          go_wp2_with fail
          have q0 : (0 : Int) ≤ (F : Int) := by omega
          have q1 : (F : Int) ≤ (F : Int) + (n : Int) := by omega
          have q3 : (F : Int) + (n : Int) ≤ (cap : Int) := by omega
          have q4 : ¬ cap = F := by omega
          have q5 : ¬ F = 0 := by omega
          have q6 : (1 : Int) < (t.length : Int) + 2 := by omega
          have t1 : ((F : Int) + (n : Int)).toNat = F + n := by omega
          have t3 : F + n - F = n := by omega
          have s1 : IntKind.i64.wrap ((F : Int) + (n : Int)) = (F : Int) + (n : Int) := IntWalk.i64_in _ (by omega)
          have s2 : IntKind.i64.wrap ((F : Int) + (n : Int) + 4) = (F : Int) + (n : Int) + 4 := IntWalk.i64_in _ (by omega)
          have HF2 := Lib.hid (show (t.length : Int) + 2 - (L : Int) = F from hF)
          have HLe := Lib.hid hRl
          clear hcap hlen hRl hF hF2 b1 b2 hs' hlen2 hp hp2 hb0 he' hl hl' hl2 hc0 hc1
          go_region_with (first
            | (go_at_call 61; refine (clone_bytes2 (some ⟨b, o + F, none⟩) n (cap - F) d _ Hdl.out (by exact hld.drew) (by omega)).mono ?_; rintro e w3 ⟨⟨a3, cap3, rfl, hrow3, hz3, hf3⟩, ho3⟩; have hb3 := hbc.drew.only ho3 id; have g0 := hb3.cell (i := 0) rfl; have g1 := hb3.cell (i := 1) rfl; have g2 := hb3.frozen 0; have g3 := hb3.frozen 1; have gk := ho3.cell (a := ⟨b, o + 1, none⟩) (v := .int .u8 k.toNat) hk1 id))
          all_goals
            go_wp2_with fail
            have hbF := (hb3.set 0 (.int .u8 k.toNat)).set 1 (.slice a3 n cap3)
            have hG0 := hbF.cell (i := 0) rfl
            have hG1 := hbF.cell (i := 1) rfl
            have hne3 := hrow3.ne_blk hb3 (by decide)
            have hrow4 := (hrow3.setCell (p := ⟨w.heap.size, 0, none⟩) hne3 (.int .u8 k.toNat)).setCell (p := ⟨w.heap.size, 1, none⟩) hne3 (.slice a3 n cap3)
            have hp4 : Pure w ((w3.setCell ⟨w.heap.size, 0, none⟩ (.int .u8 k.toNat)).setCell ⟨w.heap.size, 1, none⟩ (.slice a3 n cap3)) :=
              ((hpw.drew.trans ho3 (fun _ _ h => h)).setCell (fun h => by simp at h) _).setCell (fun h => by simp at h) _
            have hfr : ∀ x, ablk a3 = some x → w.heap.size ≤ x := fun x hx => Nat.le_trans hpw.size (hf3 x hx)
            have e1 : (197 :: k :: t).length - L = F := by
              have := HF2.out; have := HLe.out; simp; omega
            have hN : nxt s (197 :: k :: t) = .ok (⟨k, d⟩, F + n + 4, s') := by
              unfold nxt
              simp only [← HR.out, ← Hn.out, ← HL.out, He.out, e1, ← Hs1.out, ← Hy4.out, ← Hd.out, ← Hq.out]
              simp [hs]
            refine bodyPost_ret (v := .tuple #[.agg #[.int .u8 k.toNat, .slice a3 n cap3], .int .i64 (F + n + 4 : Nat), .int .u32 s'.toNat, .int .i64 0]) (by simp [results, Try.results63, go_sem, hG0, hG1]) rfl ?_
            refine ⟨hp4, ?_⟩
            rw [hN]
            have := Hdl.out
            subst this
            exact ⟨a3, cap3, rfl, hrow4, hfr⟩
        | true =>
          have hq : ¬ four s' = y4 := by
            have := Hnb.out; simpa using this
          have Hq := Lib.hid hq
          clear hq
          go_wp2_with fail
          have hbF := (hbc.set 0 (.int .u8 0)).set 1 (.slice none 0 0)
          have hF0 := hbF.cell (i := 0) rfl
          have hF1 := hbF.cell (i := 1) rfl
          refine bodyPost_ret (v := .tuple #[.agg #[.int .u8 0, .slice none 0 0], .int .i64 0, .int .u32 0, .int .i64 5]) (by simp [results, Try.results63, go_sem, hF0, hF1]) rfl ?_
          refine FNext.err ((hpw.setCell (fun h => by simp at h) _).setCell (fun h => by simp at h) _) ?_
          have e1 : (197 :: k :: t).length - L = F := by simp; omega
          unfold nxt
          simp only [← HR.out, ← Hn.out, ← HL.out, He.out, e1, ← Hs1.out, ← Hy4.out]
          simp [hs, Hq.out]
  · have he' : (R.e != 0) = true := by simp [he]
    have He := Lib.hid he
    clear he
    go_wp2_with fail
    have hbF := (hb0.set 0 (.int .u8 0)).set 1 (.slice none 0 0)
    have hF0 := hbF.cell (i := 0) rfl
    have hF1 := hbF.cell (i := 1) rfl
    refine bodyPost_ret (v := .tuple #[.agg #[.int .u8 0, .slice none 0 0], .int .i64 0, .int .u32 0, .int .i64 R.e]) (by simp [results, Try.results63, go_sem, hF0, hF1]) rfl ?_
    refine FNext.err ((hp2.setCell (fun h => by simp at h) _).setCell (fun h => by simp at h) _) ?_
    unfold nxt
    simp only [← HR.out]
    simp [He.out]
end Go.Proofs.Ytchmcjimnliodaa
end
section
set_option linter.unusedSimpArgs false
set_option linter.unusedVariables false
/- frame.Next at all bytes; frame.Good. -/
namespace Go.Proofs.Ytchmcjimnliodaa
open Go.RowKit
set_option maxRecDepth 100000

theorem next_any (s : BitVec 32) (a : Option Addr) (n cap : Nat) (b : List UInt8) (w : World) (hn : b.length = n) (hl : Lies w a (ub b)) (hcap : n ≤ cap) (hcap2 : cap ≤ maxLen) (hlen : n ≤ 1048576) :
    Calls Try.prog 63 #[.int .u32 s.toNat, .slice a n cap] w fun e w' => FNext w w' s b e := by
  subst hn
  cases b with
  | nil => exact next_nil s a cap w
  | cons c t =>
    by_cases hc : c = 197
    · subst hc
      cases t with
      | nil => exact next_one s a cap w hl
      | cons k t =>
        by_cases h2 : cap = 2
        · subst h2
          have ht : t = [] := List.eq_nil_of_length_eq_zero (by simp only [List.length_cons] at hcap; omega)
          subst ht
          exact next_two s a k w hl
        · exact next_more s a cap k t w hl (by simpa using hcap) h2 hcap2 (by have h := hlen; simp only [List.length_cons] at h; omega)
    · exact next_mark s a cap c t w hl hc
theorem good_any (s0 : BitVec 32) (a : Option Addr) (cap : Nat) (b : List UInt8) (w : World) (hl : Lies w a (ub b)) (hcap : b.length ≤ cap) (hcap2 : cap ≤ maxLen) (hlen : b.length ≤ 1048576) :
    Calls Try.prog 19 #[.int .u32 s0.toNat, .slice a b.length cap] w fun e w' => e = .returned (.tuple #[.int .i64 (scan s0 0 b).2.1, .int .u32 (scan s0 0 b).2.2.toNat]) ∧ Pure w w' := by
  go_enter Try.func19, Try.ntmps19
  go_wp2
  go_loopw [0, 6, 7, 8, 9, 10, 11] (fun v i _ _ _ _ _ wr => ∃ (k : Nat) (s : BitVec 32), k ≤ b.length ∧ i = .int .i64 k ∧ v = .int .u32 s.toNat ∧ (scan s k (b.drop k)).2 = (scan s0 0 b).2 ∧ Pure w wr) (fun _ i _ _ _ _ _ _ => b.length - (intOf i).toNat)
  case atStart => exact ⟨0, s0, by omega, rfl, rfl, by simp, Only.refl _ _⟩
  case round =>
    obtain ⟨k, s, hk, rfl, rfl, hsc, hp⟩ := hrel
    have Hsc := Lib.hid hsc
    clear hsc
    by_cases hlt : k < b.length
    · have hne : ¬ cap = k := by omega
      obtain ⟨x, o, rfl, _, _⟩ := hl.addr (by intro h; rw [← ub_length, h] at hlt; simp at hlt)
      have hl' := (hl.pure hp).dropAt k
      rw [← ub_drop] at hl'
      have hnx := next_any s (some ⟨x, o + k, none⟩) (b.length - k) (cap - k) (b.drop k) wr (by simp) hl' (by omega) (by omega) (by omega)
      cases hN : nxt s (b.drop k) with
      | error er =>
        have H := hnx.mono (R' := fun e w' => e = .returned (.tuple #[.agg #[.int .u8 0, .slice none 0 0], .int .i64 0, .int .u32 0, .int .i64 er]) ∧ Pure wr w' ∧ er ≠ 0) (fun e w' h => by
          obtain ⟨h1, h2⟩ := h; rw [hN] at h2; exact ⟨h2, h1, nxt_err_ne hN⟩)
        have HH := Lib.hid H
        have HN := Lib.hid hN
        clear H hN hnx
        go_wp2_with fail
        refine HH.out.mono ?_
        rintro e w1 ⟨rfl, hp1, her⟩
        have hne2 : (er != 0) = true := by simp [her]
        clear her
        go_wp2_with fail
        go_ret2
        have e1 := Hsc.out
        rw [scan_err HN.out] at e1
        rw [← e1]
        exact ⟨rfl, (hp.trans hp1 (fun _ _ h => h)).alloc _⟩
      | ok v =>
        obtain ⟨r, m, s'⟩ := v
        have hm := nxt_len hN
        rw [List.length_drop] at hm
        have H := hnx.mono (R' := fun e w' => ∃ a cap, e = .returned (.tuple #[.agg #[.int .u8 r.k.toNat, .slice a r.d.length cap], .int .i64 m, .int .u32 s'.toNat, .int .i64 0]) ∧ Pure wr w') (fun e w' h => by
          obtain ⟨h1, h2⟩ := h; rw [hN] at h2; obtain ⟨a, c, h3, _⟩ := h2; exact ⟨a, c, h3, h1⟩)
        have HH := Lib.hid H
        have HN := Lib.hid hN
        clear H hN hnx
        go_wp2_with fail
        refine HH.out.mono ?_
        rintro e w1 ⟨a1, c1, rfl, hp1⟩
        go_wp2_with fail
        go_roundw
        case rel =>
          refine ⟨k + m, s', by omega, by go_num, rfl, ?_, (hp.trans hp1 (fun _ _ h => h)).alloc _⟩
          have e1 := Hsc.out
          rw [scan_ok HN.out, List.drop_drop] at e1
          exact e1
        case measure => simp [intOf]; omega
    · have : k = b.length := by omega
      subst this
      have hN : nxt s (b.drop b.length) = .error 4 := by rw [List.drop_length]; rfl
      have H := fun (x : Option Addr) (c : Nat) (hc : c ≤ maxLen) => (next_any s x 0 c [] wr rfl (Lies.nil _ _) (Nat.zero_le _) hc (by omega)).mono (R' := fun e w' => e = .returned (.tuple #[.agg #[.int .u8 0, .slice none 0 0], .int .i64 0, .int .u32 0, .int .i64 4]) ∧ Pure wr w') (fun e w' h => by
          obtain ⟨h1, h2⟩ := h; exact ⟨h2, h1⟩)
      have HH := Lib.hid H
      have HN := Lib.hid hN
      clear H hN hl
      go_wp2_with fail
      all_goals
        refine (HH.out _ _ (by simp only [maxLen] at hcap2 ⊢; omega)).mono ?_
        rintro e w1 ⟨rfl, hp1⟩
        go_wp2_with fail
        go_ret2
        have e1 := Hsc.out
        rw [scan_err HN.out] at e1
        rw [← e1]
        exact ⟨rfl, (hp.trans hp1 (fun _ _ h => h)).alloc _⟩
end Go.Proofs.Ytchmcjimnliodaa
end
section
set_option linter.unusedSimpArgs false
set_option linter.unusedVariables false
/- frame.Scan: the iterator over a chain's records. -/
namespace Go.Proofs.Ytchmcjimnliodaa
open Go.RowKit
set_option maxRecDepth 100000
attribute [local go_sem] Oper.semAt_some

/-- What Scan hands out: where a record begins, the record, and where its bytes lie. -/
structure ScanIt where
  at_ : Nat
  r : Rec
  a : Option Addr
  cap : Nat
def ScanIt.strip (x : ScanIt) : Nat × Rec := (x.at_, x.r)
def ScanIt.enc (x : ScanIt) : Array Value := #[.int .i64 x.at_, .agg #[.int .u8 x.r.k.toNat, .slice x.a x.r.d.length x.cap]]
/-- What Scan has kept: the sum, and its own copy of the bytes. -/
def ScanEnv (W : World) (s0 : BitVec 32) (b : List UInt8) (B1 B2 : Nat) (a : Option Addr) (cap : Nat) : Prop :=
  Blk W B1 #[.int .u32 s0.toNat] 22 ∧ Blk W B2 #[.slice a b.length cap] 24 ∧ Row W 5 1 a b.length cap (ub b)
def scanT (B1 B2 : Nat) (a : Option Addr) : Nat → Prop := fun k => k = B1 ∨ k = B2 ∨ ablk a = some k
def scanPin (s0 : BitVec 32) (b : List UInt8) (base : Nat) (pre : List ScanIt) (x : ScanIt) (W : World) : Prop :=
  Row W 5 1 x.a x.r.d.length x.cap (ub x.r.d) ∧ (∀ k, ablk x.a = some k → base ≤ k) ∧ (pre ++ [x]).map ScanIt.strip <+: (scan s0 0 b).1 ∧ x.r.d.length ≤ 1024
theorem ScanEnv.keep {W W' : World} {s0 : BitVec 32} {b : List UInt8} {B1 B2 : Nat} {a : Option Addr} {cap : Nat} (h : ScanEnv W s0 b B1 B2 a cap) (hk : KeepT (scanT B1 B2 a) W W') : ScanEnv W' s0 b B1 B2 a cap :=
  ⟨(hk.same B1 (.inl rfl)).trans h.1, (hk.same B2 (.inr (.inl rfl))).trans h.2.1, h.2.2.keep fun k hb _ => hk.same k (.inr (.inr hb))⟩
theorem ScanEnv.pure {W W' : World} {s0 : BitVec 32} {b : List UInt8} {B1 B2 : Nat} {a : Option Addr} {cap : Nat} (h : ScanEnv W s0 b B1 B2 a cap) (hp : Pure W W') : ScanEnv W' s0 b B1 B2 a cap :=
  ⟨h.1.only hp id, h.2.1.only hp id, h.2.2.only hp (fun _ _ => id)⟩
set_option maxHeartbeats 1000000 in
theorem scan1_sq (n : Nat) (s0 : BitVec 32) (b : List UInt8) (B1 B2 : Nat) (a : Option Addr) (cap : Nat) (W : World) (he : ScanEnv W s0 b B1 B2 a cap) (hlen : b.length ≤ 1048576) :
    SqAt n Try.prog 62 #[.pointer (some ⟨B1, 0, none⟩), .pointer (some ⟨B2, 0, none⟩)] ScanIt.enc (scanT B1 B2 a) (scanPin s0 b W.heap.size) (fun xs => xs.map ScanIt.strip = (scan s0 0 b).1) (fun pre => pre.map ScanIt.strip <+: (scan s0 0 b).1) W := by
  intro l J Jx hJ hJx hY h0
  obtain ⟨hb1, hb2, hrow⟩ := id he
  have hc1 := hb1.cell (i := 0) rfl
  have hc2 := hb2.cell (i := 0) rfl
  refine callsIn_of_wp Try.func62 rfl trivial ?_ rfl
  simp only [Try.ntmps62, List.size_toArray, List.length_cons, List.length_nil, Nat.reduceAdd, Nat.reduceSub, Array.replicate_succ, Array.replicate_zero, List.push_toArray, List.append_toArray, List.nil_append, List.cons_append]
  gi_wp2
  gi_loopw [4, 5, 6, 7, 8, 9] (fun v i _ _ _ _ wr => ∃ (k : Nat) (s : BitVec 32) (pre : List ScanIt), k ≤ b.length ∧ i = .int .i64 k ∧ v = .int .u32 s.toNat ∧
      pre.map ScanIt.strip ++ (scan s k (b.drop k)).1 = (scan s0 0 b).1 ∧ J pre wr ∧ ScanEnv wr s0 b B1 B2 a cap ∧ W.heap.size ≤ wr.heap.size) (fun _ i _ _ _ _ _ => b.length - (intOf i).toNat)
  case atStart => exact ⟨0, s0, [], by omega, rfl, rfl, by simp, h0, he, Nat.le_refl _⟩
  case round =>
    obtain ⟨k, s, pre, hk, rfl, rfl, hsc, hj, henv, hsz⟩ := hrel
    have Hsc := Lib.hid hsc
    clear hsc
    obtain ⟨hbr1, hbr2, hrowr⟩ := id henv
    have hcr2 := hbr2.cell (i := 0) rfl
    by_cases hlt : k < b.length
    · have hcap := hrowr.2.1
      have hne : ¬ cap = k := by omega
      obtain ⟨x, o, rfl, _, _⟩ := hrowr.lies.addr (by intro h; rw [← ub_length, h] at hlt; simp at hlt)
      have hl' := hrowr.lies.dropAt k
      rw [← ub_drop] at hl'
      have hcm := hrowr.2.2.1
      have hnx := next_any s (some ⟨x, o + k, none⟩) (b.length - k) (cap - k) (b.drop k) wr (by simp) hl' (by omega) (by omega) (by omega)
      cases hN : nxt s (b.drop k) with
      | error er =>
        have H := hnx.mono (R' := fun e w' => e = .returned (.tuple #[.agg #[.int .u8 0, .slice none 0 0], .int .i64 0, .int .u32 0, .int .i64 er]) ∧ Pure wr w' ∧ er ≠ 0) (fun e w' h => by
          obtain ⟨h1, h2⟩ := h; rw [hN] at h2; exact ⟨h2, h1, nxt_err_ne hN⟩)
        have HH := Lib.hid H
        have HN := Lib.hid hN
        clear H hN hnx
        gi_wp2_with fail
        refine wideCall (HH.out.mono ?_)
        rintro e w1 ⟨rfl, hp1, her⟩
        have hne2 : (er != 0) = true := by simp [her]
        clear her
        gi_wp2_with fail
        refine ⟨fun _ h => (by cases h), ?_⟩
        gi_wp2_with fail
        refine bodyPost_ret (results_none rfl _ _ _) rfl ?_
        refine ⟨⟨_, rfl⟩, .inl ⟨pre, ?_, hJ _ _ _ none hj (Only.grownBy (hp1.alloc _)) (fun r h => by cases h)⟩⟩
        have e1 := Hsc.out
        rw [scan_err HN.out] at e1
        rw [← e1]; simp
      | ok v =>
        obtain ⟨r, m, s'⟩ := v
        have hm := nxt_len hN
        rw [List.length_drop] at hm
        have H := hnx.mono (R' := fun e w' => ∃ a cap, e = .returned (.tuple #[.agg #[.int .u8 r.k.toNat, .slice a r.d.length cap], .int .i64 m, .int .u32 s'.toNat, .int .i64 0]) ∧ Pure wr w' ∧ Row w' 5 1 a r.d.length cap (ub r.d) ∧ ∀ k, ablk a = some k → wr.heap.size ≤ k) (fun e w' h => by
          obtain ⟨h1, h2⟩ := h; rw [hN] at h2; obtain ⟨a, c, h3, h4, h5⟩ := h2; exact ⟨a, c, h3, h1, h4, h5⟩)
        have HH := Lib.hid H
        have HN := Lib.hid hN
        clear H hN hnx
        gi_wp2_with fail
        refine wideCall (HH.out.mono ?_)
        rintro e w1 ⟨a1, c1, rfl, hp1, hrow1, hfr1⟩
        have hpre : (pre ++ [(⟨k, r, a1, c1⟩ : ScanIt)]).map ScanIt.strip ++ (scan s' (k + m) (b.drop (k + m))).1 = (scan s0 0 b).1 := by
          have e1 := Hsc.out
          rw [scan_ok HN.out, List.drop_drop] at e1
          rw [← e1]; simp [ScanIt.strip]
        have Hpre := Lib.hid hpre
        clear hpre
        have hj1 : J pre (w1.alloc (.cells #[.int .u8 r.k.toNat, .slice a1 r.d.length c1] 29)) := hJ _ _ _ none hj (Only.grownBy (hp1.alloc _)) (fun r h => by cases h)
        obtain ⟨fn, tmps, assign, body, hy, hR⟩ := hY pre ⟨k, r, a1, c1⟩ _ hj1 ⟨hrow1.alloc _, fun x hx => Nat.le_trans hsz (hfr1 x hx), by rw [← Hpre.out]; exact List.prefix_append _ _, hm.2.2⟩
        simp only [ScanIt.enc] at hy
        gi_wp2_with fail
        refine ⟨fun hd => by simp [Fence.wide] at hd, hR.mono ?_⟩
        have henv1 : ScanEnv (w1.alloc (.cells #[.int .u8 r.k.toNat, .slice a1 r.d.length c1] 29)) s0 b B1 B2 (some ⟨x, o, none⟩) cap := henv.pure (hp1.alloc _)
        rintro e W3 (⟨rfl, hj3, hk3⟩ | ⟨rfl, hjx⟩)
        · gi_wp2_with fail
          go_roundw
          case rel =>
            refine ⟨k + m, s', pre ++ [⟨k, r, a1, c1⟩], by omega, by go_num, rfl, Hpre.out, hj3, henv1.keep hk3, ?_⟩
            have h1 := hp1.size
            have h2 := hk3.size
            simp at h2
            omega
          case measure => simp [intOf]; omega
        · gi_wp2_with fail
          refine bodyPost_ret (results_none rfl _ _ _) rfl ?_
          exact ⟨⟨_, rfl⟩, .inr ⟨_, by rw [← Hpre.out]; exact List.prefix_append _ _, hjx⟩⟩
    · have : k = b.length := by omega
      subst this
      have e1 : scan s b.length (b.drop b.length) = ([], b.length, s) := by rw [List.drop_length]; exact scan_err rfl
      have He1 := Lib.hid e1
      clear e1
      gi_wp2_with fail
      go_end0
      refine ⟨⟨_, rfl⟩, .inl ⟨pre, ?_, hj⟩⟩
      rw [← Hsc.out, He1.out]; simp
theorem scan_any (s0 : BitVec 32) (a : Option Addr) (cap : Nat) (b : List UInt8) (w : World) (hl : Lies w a (ub b)) (hlen : b.length ≤ 1048576) :
    Calls Try.prog 16 #[.int .u32 s0.toNat, .slice a b.length cap] w fun e w' => ∃ B1 B2 a' cap', e = .returned (.func (.func 62) #[] #[.pointer (some ⟨B1, 0, none⟩), .pointer (some ⟨B2, 0, none⟩)]) ∧
      ScanEnv w' s0 b B1 B2 a' cap' ∧ (∀ k, scanT B1 B2 a' k → w.heap.size ≤ k ∧ k < w'.heap.size) ∧ Pure w w' := by
  have hb := Blk.new w #[.int .u32 s0.toNat] 22
  go_enter Try.func16, Try.ntmps16
  go_wp2_with fail
  refine (clone_bytes a cap b _ (hl.alloc _) (by omega)).mono ?_
  rintro e w1 ⟨⟨a1, c1, rfl, hrow1, hz1, hf1⟩, hp1⟩
  go_wp2_with fail
  go_ret
  have hs := hp1.size
  simp at hs
  refine ⟨w.heap.size, w1.heap.size, a1, c1, rfl, ⟨(hb.only hp1 id).alloc _, Blk.new w1 _ _, hrow1.alloc _⟩, ?_, (((Only.refl (fun _ => False) w).alloc _).trans hp1 (fun _ _ h => h)).alloc _⟩
  rintro k (rfl | rfl | hk)
  · simp; omega
  · simp; omega
  · have h1 := hf1 k hk
    have h2 := hrow1.lt k hk
    simp at h1 ⊢; omega
end Go.Proofs.Ytchmcjimnliodaa
end
section
set_option linter.unusedSimpArgs false
set_option linter.unusedVariables false
/- Records that came in, and small words for rows. No program in sight. -/
namespace Go.Proofs.Ytchmcjimnliodaa
open Go.RowKit

/-- A record, and where its bytes lie. -/
structure RecAt where
  r : Rec
  a : Option Addr
  cap : Nat
def RecAt.cells (x : RecAt) : List Value := [.int .u8 x.r.k.toNat, .slice x.a x.r.d.length x.cap]
/-- The records `xs` lie from `a` on, and each one's bytes where it says. -/
def Recs (w : World) (a : Option Addr) (xs : List RecAt) : Prop := Lies w a (xs.flatMap RecAt.cells) ∧ ∀ x ∈ xs, Lies w x.a (ub x.r.d)
theorem flat_at (xs : List RecAt) : ∀ (i : Nat) (h : i < xs.length), (xs.flatMap RecAt.cells)[i * 2]? = some (.int .u8 (xs[i]).r.k.toNat) ∧ (xs.flatMap RecAt.cells)[i * 2 + 1]? = some (.slice (xs[i]).a (xs[i]).r.d.length (xs[i]).cap) := by
  induction xs with
  | nil => intro i h; simp at h
  | cons x xs ih =>
    intro i h
    cases i with
    | zero => simp [RecAt.cells]
    | succ i =>
      have := ih i (by simpa using h)
      simp only [List.flatMap_cons, RecAt.cells, Nat.add_mul, List.getElem_cons_succ]
      rw [List.getElem?_append_right (by simp), List.getElem?_append_right (by simp)]
      simpa using this
theorem Recs.pure {w w' : World} {a : Option Addr} {xs : List RecAt} (h : Recs w a xs) (hp : Pure w w') : Recs w' a xs := ⟨h.1.pure hp, fun x hx => (h.2 x hx).pure hp⟩
theorem Recs.addr {w : World} {a : Option Addr} {xs : List RecAt} (h : Recs w a xs) {i : Nat} (hi : i < xs.length) : ∃ b o, a = some ⟨b, o, none⟩ ∧ b < w.heap.size := by
  obtain ⟨h0, _⟩ := flat_at xs i hi
  obtain ⟨b, o, rfl, hc⟩ := h.1 _ _ h0
  exact ⟨b, o, rfl, World.block_lt_of_cell? w ⟨b, o + i * 2, none⟩ hc⟩
theorem Recs.cells {w : World} {b o : Nat} {xs : List RecAt} (h : Recs w (some ⟨b, o, none⟩) xs) {i : Nat} (hi : i < xs.length) :
    w.cell? ⟨b, o + i * 2, none⟩ = some (.int .u8 (xs[i]).r.k.toNat) ∧ w.cell? ⟨b, o + i * 2 + 1, none⟩ = some (.slice (xs[i]).a (xs[i]).r.d.length (xs[i]).cap) := by
  obtain ⟨h0, h1⟩ := flat_at xs i hi
  exact ⟨h.1.at h0, h.1.at h1⟩
/-- Rows of two types are two rows. -/
theorem Row.ne_row {w : World} {e e' size size' : TypeId} {a a' : Option Addr} {n n' cap cap' : Nat} {xs xs' : List Value} (h : Row w e size a n cap xs) (h' : Row w e' size' a' n' cap' xs') (hT : e ≠ e') :
    ∀ b, ablk a = some b → ablk a' ≠ some b := by
  intro b hb hb'
  rcases h.2.2.2 with ⟨rfl, _⟩ | ⟨g, cur, rfl, hg, _⟩
  · simp [ablk] at hb
  · rcases h'.2.2.2 with ⟨rfl, _⟩ | ⟨g', cur', rfl, hg', _⟩
    · simp [ablk] at hb'
    · simp [ablk] at hb hb'
      subst hb; subst hb'
      rw [hg] at hg'; injection hg' with hg'; injection hg' with _ hh _
      exact hT hh
/-- Numbers as cells. -/
def ints (l : List Nat) : List Value := l.map fun n : Nat => Value.int .i64 (n : Int)
theorem ints_length (l : List Nat) : (ints l).length = l.length := by simp [ints]
theorem ints_append (l k : List Nat) : ints (l ++ k) = ints l ++ ints k := by simp [ints]
theorem ints_one (l : List Nat) : ∀ u ∈ ints l, u.oneCell' = true := by
  intro u hu; obtain ⟨_, _, rfl⟩ := List.mem_map.1 hu; rfl
theorem ints_at {l : List Nat} {j n : Nat} (h : l[j]? = some n) : (ints l)[j]? = some (.int .i64 n) := by simp [ints, h]
/-- Where the first `k` records begin. -/
def heads (s : BitVec 32) (l : List Rec) (k : Nat) : List Nat := (List.range k).map (pos s l)
theorem heads_length (s : BitVec 32) (l : List Rec) (k : Nat) : (heads s l k).length = k := by simp [heads]
theorem heads_succ (s : BitVec 32) (l : List Rec) (k : Nat) : heads s l (k + 1) = heads s l k ++ [pos s l k] := by simp [heads, List.range_succ]
theorem heads_at (s : BitVec 32) (l : List Rec) {k j : Nat} (h : j < k) : (heads s l k)[j]? = some (pos s l j) := by simp [heads, h]
end Go.Proofs.Ytchmcjimnliodaa
end
section
set_option linter.unusedSimpArgs false
set_option linter.unusedVariables false
/- frame's contracts, as the texts above use them: rows' addresses, frame.Bytes, frame.Scan. -/
namespace Go.Proofs.Ytchmcjimnliodaa
open Go Go.RowKit
set_option maxRecDepth 10000
set_option linter.unusedVariables false

theorem Row.addr {w : World} {e : TypeId} {size : Nat} {a : Option Addr} {n cap : Nat} {xs : List Value} (h : Row w e size a n cap xs) (hn : 0 < n) : ∃ b, a = some ⟨b, 0, none⟩ ∧ b < w.heap.size := by
  rcases h.2.2.2 with ⟨_, h4, _⟩ | ⟨g, cur, hg, hh, hs, ht⟩
  · omega
  · exact ⟨g, hg, (Array.getElem?_eq_some_iff.1 hh).1⟩
/-- frame.Bytes of a record that is not too long. -/
theorem fbytes_ok (s : BitVec 32) (k : UInt8) (d : List UInt8) (a : Option Addr) (n cap : Nat) (w : World) (hn : d.length = n) (hl : Lies w a (ub d)) (hlen : n ≤ 1024) :
    Calls Try.prog 58 #[.int .u32 s.toNat, .agg #[.int .u8 k.toNat, .slice a n cap]] w fun e w' => Pure w w' ∧ ∃ a cap, e = .returned (.tuple #[.slice a (frameb s ⟨k, d⟩).length cap, .int .u32 (frameSum s ⟨k, d⟩).toNat, .int .i64 0]) ∧ Row w' 5 1 a (frameb s ⟨k, d⟩).length cap (ub (frameb s ⟨k, d⟩)) ∧ ∀ k, ablk a = some k → w.heap.size ≤ k := by
  subst hn
  refine (fbytes_any s k d a cap w hl (by omega)).mono fun e w' h => ?_
  obtain ⟨h1, h2⟩ := h
  rw [if_neg (by simp; omega)] at h2
  exact ⟨h1, h2⟩
/-- The iterator's own memory. -/
def scanI (s0 : BitVec 32) (b : List UInt8) (B1 B2 : Nat) (a : Option Addr) (cap : Nat) : It :=
  .gen (scanT B1 B2 a) (fun w => ScanEnv w s0 b B1 B2 a cap) (fun _ _ h hz k => k.keep ⟨hz, h⟩)
theorem scan_ret {w : World} (s0 : BitVec 32) {a : Option Addr} {cap n : Nat} (b : List UInt8) (hn : b.length = n) (hl : Lies w a (ub b)) (hlen : n ≤ 1048576) {K : Value → World → Prop}
    (k : ∀ (w' : World) (B1 B2 : Nat) (a' : Option Addr) (cap' : Nat), Pure w w' → (scanI s0 b B1 B2 a' cap').ok w' → (∀ q, (scanI s0 b B1 B2 a' cap').fp q → w.heap.size ≤ q) → K (.func (.func 62) #[] #[.pointer (some ⟨B1, 0, none⟩), .pointer (some ⟨B2, 0, none⟩)]) w') :
    Ret Try.prog 16 #[.int .u32 s0.toNat, .slice a n cap] w K := by
  subst hn
  refine Ret.mk Try.call16 ((scan_any s0 a cap b w hl hlen).mono ?_)
  rintro e w' ⟨B1, B2, a', cap', rfl, h1, h2, hp⟩
  exact ⟨_, rfl, k w' B1 B2 a' cap' hp ⟨h1, fun q hq => (h2 q hq).2⟩ (fun q hq => (h2 q hq).1)⟩
def scanEncs (x : ScanIt) : List Value := [.int .i64 x.at_, .agg #[.int .u8 x.r.k.toNat, .slice x.a x.r.d.length x.cap]]
theorem scan_seq (s0 : BitVec 32) (b : List UInt8) {B1 B2 : Nat} {a : Option Addr} {cap : Nat} (base : Nat) {W : World} (h : (scanI s0 b B1 B2 a cap).ok W) (hb : base ≤ W.heap.size) (hlen : b.length ≤ 1048576) :
    SqAt 0 Try.prog 62 #[.pointer (some ⟨B1, 0, none⟩), .pointer (some ⟨B2, 0, none⟩)] (fun x => (scanEncs x).toArray) (scanI s0 b B1 B2 a cap).fp (scanPin s0 b base) (fun xs => xs.map ScanIt.strip = (scan s0 0 b).1) (fun pre => pre.map ScanIt.strip <+: (scan s0 0 b).1) W :=
  (scan1_sq 0 s0 b B1 B2 a cap W h.1 hlen).weak fun pre x W h => ⟨h.1, fun k hk => Nat.le_trans hb (h.2.1 k hk), h.2.2⟩
theorem scan_count3 (s : BitVec 32) (at_ : Nat) (b : List UInt8) : (scan s at_ b).1.length ≤ b.length := by
  obtain ⟨n, hn⟩ : ∃ n, b.length = n := ⟨_, rfl⟩
  induction n using Nat.strongRecOn generalizing s at_ b with
  | _ n ih =>
    cases hN : nxt s b with
    | error e => rw [scan_err hN]; simp
    | ok v =>
      obtain ⟨r, m, s'⟩ := v
      have h := nxt_len hN
      rw [scan_ok hN]
      have := ih (b.drop m).length (by simp; omega) s' (at_ + m) (b.drop m) rfl
      simp at this ⊢
      omega
end Go.Proofs.Ytchmcjimnliodaa
end
section
set_option linter.unusedSimpArgs false
set_option linter.unusedVariables false
/- A disk in memory; what the functions of disk give (chapter 4). -/
namespace Go.Proofs.Ytchmcjimnliodaa
open Go Go.RowKit
set_option maxRecDepth 10000
set_option linter.unusedSimpArgs false
set_option linter.unusedVariables false

/-- A writing's cells; those of several, and of sectors. -/
def waitC (p : Nat × List UInt8) : List Value := .int .i64 p.1 :: ub p.2
def waitsC (l : List (Nat × List UInt8)) : List Value := l.flatMap waitC
def secsC (l : List (List UInt8)) : List Value := l.flatMap ub
theorem waitC_one (p : Nat × List UInt8) : ∀ u ∈ waitC p, u.oneCell' = true := by
  intro u hu
  rcases List.mem_cons.1 hu with rfl | hu
  · rfl
  · exact ub_one _ u hu
theorem secsC_ub (l : List (List UInt8)) : secsC l = ub l.flatten := by
  induction l with
  | nil => rfl
  | cons x l ih => rw [secsC, List.flatMap_cons, ← secsC, ih, List.flatten_cons, ub_append]
theorem secsC_one (l : List (List UInt8)) : ∀ u ∈ secsC l, u.oneCell' = true := by rw [secsC_ub]; exact ub_one _
theorem waitsC_one (l : List (Nat × List UInt8)) : ∀ u ∈ waitsC l, u.oneCell' = true := by
  intro u hu
  obtain ⟨p, _, hp⟩ := List.mem_flatMap.1 hu
  exact waitC_one p u hp
theorem el139 : ElemT Try.prog 139 150 64 64 := ElemT.mk (z := .agg (ub (List.replicate 64 0)).toArray) Try.underlying139 (by kernel_rfl) rfl (by decide)
theorem el140 : ElemT Try.prog 140 153 65 72 := ElemT.mk (z := .agg (waitC (0, List.replicate 64 0)).toArray) Try.underlying140 (by kernel_rfl) rfl (by decide)
theorem ag150 : AggT Try.prog 150 64 := aggT (by kernel_rfl)
theorem ag153 : AggT Try.prog 153 65 := aggT (by kernel_rfl)
structure DkAt (w : World) (D : Nat) (ra rb : Option Nat) (d : Dk) : Prop where
  ex : ∃ a ca b cb, Blk w D #[.slice a d.l.length ca, .slice b d.ws.length cb, .bool d.down] 142 ∧ Row w 150 64 a d.l.length ca (secsC d.l) ∧ Row w 153 65 b d.ws.length cb (waitsC d.ws) ∧ ablk a = ra ∧ ablk b = rb
/-- A disk, as a thing in memory. -/
def dkI (D : Nat) (ra rb : Option Nat) (d : Dk) : It :=
  .gen (fun k => k = D ∨ ra = some k ∨ rb = some k) (fun w => DkAt w D ra rb d) (fun w w' hk hz h => by
    obtain ⟨a, ca, b, cb, h1, h2, h3, rfl, rfl⟩ := h.ex
    exact ⟨a, ca, b, cb, (hk D (.inl rfl)).trans h1, h2.keep fun q hq _ => hk q (.inr (.inl hq)), h3.keep fun q hq _ => hk q (.inr (.inr hq)), rfl, rfl⟩)
section
variable {S : Nat → Prop} {w0 w : World} {L : List It} {j D : Nat} {ra rb : Option Nat} {d : Dk} {K : Value → World → Prop}
theorem dk_mk {w : World} {a b : Option Addr} {ca cb : Nat} (h1 : Blk w D #[.slice a d.l.length ca, .slice b d.ws.length cb, .bool d.down] 142) (h2 : Row w 150 64 a d.l.length ca (secsC d.l)) (h3 : Row w 153 65 b d.ws.length cb (waitsC d.ws)) : (dkI D (ablk a) (ablk b) d).ok w :=
  ⟨⟨a, ca, b, cb, h1, h2, h3, rfl, rfl⟩, fun k hk => by
    rcases hk with rfl | hk | hk
    · exact h1.lt
    · exact h2.lt k hk
    · exact h3.lt k hk⟩
/-- The parts of a disk, each a thing of its own. -/
theorem Hp.openDk (H : Hp S w0 w L) (hk : At L j (dkI D ra rb d)) : ∃ a ca b cb, ablk a = ra ∧ ablk b = rb ∧
    Hp S w0 w (.blk D #[.slice a d.l.length ca, .slice b d.ws.length cb, .bool d.down] 142 :: .row 150 64 a d.l.length ca (secsC d.l) :: .row 153 65 b d.ws.length cb (waitsC d.ws) :: L.eraseIdx j) := by
  obtain ⟨a, ca, b, cb, h1, h2, h3, rfl, rfl⟩ := (H.get hk.get).1.ex
  refine ⟨a, ca, b, cb, rfl, rfl, ?_⟩
  have H' : Hp S w0 w (dkI D (ablk a) (ablk b) d :: L.eraseIdx j) := H.toFront hk
  have hap := List.pairwise_cons.1 H'.apart
  have hown := H'.own _ (List.mem_cons_self ..)
  have hne1 : ablk a ≠ some D := h2.ne_blk h1 (by decide)
  have hne2 : ablk b ≠ some D := h3.ne_blk h1 (by decide)
  have hab : ∀ k, ablk a = some k → ¬ ablk b = some k := fun k e1 e2 => Row.ne_row h2 h3 (by decide) k e1 e2
  refine ((H'.tail.add (i := .row 153 65 b d.ws.length cb (waitsC d.ws)) h3 (fun k hk => hown k (.inr (.inr hk))) (fun x hx k hk => hap.1 x hx k (.inr (.inr hk)))).add
    (i := .row 150 64 a d.l.length ca (secsC d.l)) h2 (fun k hk => hown k (.inr (.inl hk))) ?_).add (i := .blk D #[.slice a d.l.length ca, .slice b d.ws.length cb, .bool d.down] 142) h1 (fun k hk => hown k (.inl hk)) ?_
  · intro x hx k hk
    rcases List.mem_cons.1 hx with rfl | hx
    · exact hab k hk
    · exact hap.1 x hx k (.inr (.inl hk))
  · intro x hx k hk
    obtain rfl : k = D := hk
    rcases List.mem_cons.1 hx with rfl | hx
    · exact hne1
    · rcases List.mem_cons.1 hx with rfl | hx
      · exact hne2
      · exact hap.1 x hx k (.inl rfl)
/-- And back. -/
theorem Hp.shutDk {a b : Option Addr} {ca cb n m : Nat} {dn : Bool} {xs ys : List Value} (H : Hp S w0 w (.blk D #[.slice a n ca, .slice b m cb, .bool dn] 142 :: .row 150 64 a n ca xs :: .row 153 65 b m cb ys :: L)) (d : Dk) (hn : n = d.l.length) (hm : m = d.ws.length) (hd : dn = d.down) (hx : xs = secsC d.l) (hy : ys = waitsC d.ws) : Hp S w0 w (dkI D (ablk a) (ablk b) d :: L) := by
  subst hn; subst hm; subst hd; subst hx; subst hy
  have h1 : Blk w D _ 142 := H.ok _ (List.mem_cons_self ..)
  have h2 : Row w 150 64 a d.l.length ca (secsC d.l) := H.ok (.row 150 64 a d.l.length ca (secsC d.l)) (by simp)
  have h3 : Row w 153 65 b d.ws.length cb (waitsC d.ws) := H.ok (.row 153 65 b d.ws.length cb (waitsC d.ws)) (by simp)
  have p1 := List.pairwise_cons.1 H.apart
  have p2 := List.pairwise_cons.1 p1.2
  have p3 := List.pairwise_cons.1 p2.2
  refine H.tail.tail.tail.add (dk_mk h1 h2 h3) (fun k hk => ?_) (fun x hx k hk => ?_)
  · rcases hk with rfl | hk | hk
    · exact H.own (.blk k _ 142) (List.mem_cons_self ..) k rfl
    · exact H.own (.row 150 64 a d.l.length ca (secsC d.l)) (by simp) k hk
    · exact H.own (.row 153 65 b d.ws.length cb (waitsC d.ws)) (by simp) k hk
  · rcases hk with rfl | hk | hk
    · exact p1.1 x (by simp [hx]) k rfl
    · exact p2.1 x (by simp [hx]) k hk
    · exact p3.1 x hx k hk
theorem dlen_ret (H : Hp S w0 w L) (hk : At L j (dkI D ra rb d)) (k : K (.int .i64 d.l.length) w) : Ret Try.prog 35 #[.pointer (some ⟨D, 0, none⟩)] w K := by
  obtain ⟨a, ca, b, cb, _, _, H⟩ := H.openDk hk
  apply e35
  unfold c35
  repeat (first | ((first | refine val_box H ?_ | refine val_alloc H (fun w => by simp [go_sem]; rfl) ?_); clear H; intro B w hB hp H; clear hB hp; try simp only [List.set_cons_zero, List.set_cons_succ, List.setIfInBounds_toArray, List.set_set, Value.cells] at H) | (first | refine val_ld H (fun w => by simp [go_sem]) (by with_reducible repeat (first | exact At.zero | apply At.succ)) (by rfl) ?_ | refine rd_ld H (fun w => by simp [go_sem]) (by with_reducible repeat (first | exact At.zero | apply At.succ)) (by rfl) ?_ | refine val_ldB H (by with_reducible repeat (first | exact At.zero | apply At.succ)) (aggT (by kernel_rfl)) ?_ | refine rd_ldB H (by with_reducible repeat (first | exact At.zero | apply At.succ)) (aggT (by kernel_rfl)) ?_) | ((first | refine unt_st H (by with_reducible repeat (first | exact At.zero | apply At.succ)) (fun w => by simp [go_sem]) (by rfl) (by rfl) ?_ | refine unt_stB H (by with_reducible repeat (first | exact At.zero | apply At.succ)) (aggT (by kernel_rfl)) (by rfl) (by rfl) ?_); clear H; intro w ho H; clear ho; try simp only [List.set_cons_zero, List.set_cons_succ, List.setIfInBounds_toArray, List.set_set, Value.cells] at H) | (refine val_at_bs ?_; ((refine val_run (by simp [go_sem]; (try simp (disch := omega) only [w_i64, w_u64, w_u32, w_u16, w_u8, w_i32]); rfl) ?_); refine onOk_bs H ?_; clear H; intro B w hB hp H; clear hB hp; try simp only [List.set_cons_zero, List.set_cons_succ, List.setIfInBounds_toArray, List.set_set, Value.cells] at H)) | (first | (refine val_run (by simp [bin, nilc, go_sem]; (try simp (disch := omega) only [w_i64, w_u64, w_u32, w_u16, w_u8, w_i32]); rfl) ?_; refine onOk_in ?_) | (refine pu_run (fun w => by simp [bin, nilc, go_sem]; (try simp (disch := omega) only [w_i64, w_u64, w_u32, w_u16, w_u8, w_i32]); rfl) ?_; refine puR_in ?_) | (refine tk_run (fun w => by simp [bin, nilc, go_sem]; (try simp (disch := omega) only [w_i64, w_u64, w_u32, w_u16, w_u8, w_i32]); rfl) ?_; refine puR_in ?_)) | (refine tk_at_in ?_) | (refine ph_at ?_) | (refine ph_pure (Only.refl _ _) ?_) | (refine ph_k H (by with_reducible repeat (first | exact At.zero | apply At.succ)) ?_) | (refine tk_k (fun w => by simp [go_sem]) (by rfl) ?_) | (refine ph_pure H.only ?_) | (refine ph_pure (hpT.trans H.only (fun _ _ k => k)) ?_) | (refine tk_pld H (fun w => by simp [go_sem]) (by with_reducible repeat (first | exact At.zero | apply At.succ)) (by rfl) ?_) | (refine tk_pldB H (by with_reducible repeat (first | exact At.zero | apply At.succ)) (aggT (by kernel_rfl)) ?_) | (refine gd_true_in ?_) | (refine gd_false_in ?_) | (refine gd_true_in' ?_) | (refine gd_false_in' ?_))
  exact k
theorem ddown_ret (H : Hp S w0 w L) (hk : At L j (dkI D ra rb d)) (k : K (.bool d.down) w) : Ret Try.prog 85 #[.pointer (some ⟨D, 0, none⟩)] w K := by
  obtain ⟨a, ca, b, cb, _, _, H⟩ := H.openDk hk
  apply e85
  unfold c85
  repeat (first | ((first | refine val_box H ?_ | refine val_alloc H (fun w => by simp [go_sem]; rfl) ?_); clear H; intro B w hB hp H; clear hB hp; try simp only [List.set_cons_zero, List.set_cons_succ, List.setIfInBounds_toArray, List.set_set, Value.cells] at H) | (first | refine val_ld H (fun w => by simp [go_sem]) (by with_reducible repeat (first | exact At.zero | apply At.succ)) (by rfl) ?_ | refine rd_ld H (fun w => by simp [go_sem]) (by with_reducible repeat (first | exact At.zero | apply At.succ)) (by rfl) ?_ | refine val_ldB H (by with_reducible repeat (first | exact At.zero | apply At.succ)) (aggT (by kernel_rfl)) ?_ | refine rd_ldB H (by with_reducible repeat (first | exact At.zero | apply At.succ)) (aggT (by kernel_rfl)) ?_) | ((first | refine unt_st H (by with_reducible repeat (first | exact At.zero | apply At.succ)) (fun w => by simp [go_sem]) (by rfl) (by rfl) ?_ | refine unt_stB H (by with_reducible repeat (first | exact At.zero | apply At.succ)) (aggT (by kernel_rfl)) (by rfl) (by rfl) ?_); clear H; intro w ho H; clear ho; try simp only [List.set_cons_zero, List.set_cons_succ, List.setIfInBounds_toArray, List.set_set, Value.cells] at H) | (refine val_at_bs ?_; ((refine val_run (by simp [go_sem]; (try simp (disch := omega) only [w_i64, w_u64, w_u32, w_u16, w_u8, w_i32]); rfl) ?_); refine onOk_bs H ?_; clear H; intro B w hB hp H; clear hB hp; try simp only [List.set_cons_zero, List.set_cons_succ, List.setIfInBounds_toArray, List.set_set, Value.cells] at H)) | (first | (refine val_run (by simp [bin, nilc, go_sem]; (try simp (disch := omega) only [w_i64, w_u64, w_u32, w_u16, w_u8, w_i32]); rfl) ?_; refine onOk_in ?_) | (refine pu_run (fun w => by simp [bin, nilc, go_sem]; (try simp (disch := omega) only [w_i64, w_u64, w_u32, w_u16, w_u8, w_i32]); rfl) ?_; refine puR_in ?_) | (refine tk_run (fun w => by simp [bin, nilc, go_sem]; (try simp (disch := omega) only [w_i64, w_u64, w_u32, w_u16, w_u8, w_i32]); rfl) ?_; refine puR_in ?_)) | (refine tk_at_in ?_) | (refine ph_at ?_) | (refine ph_pure (Only.refl _ _) ?_) | (refine ph_k H (by with_reducible repeat (first | exact At.zero | apply At.succ)) ?_) | (refine tk_k (fun w => by simp [go_sem]) (by rfl) ?_) | (refine ph_pure H.only ?_) | (refine ph_pure (hpT.trans H.only (fun _ _ k => k)) ?_) | (refine tk_pld H (fun w => by simp [go_sem]) (by with_reducible repeat (first | exact At.zero | apply At.succ)) (by rfl) ?_) | (refine tk_pldB H (by with_reducible repeat (first | exact At.zero | apply At.succ)) (aggT (by kernel_rfl)) ?_) | (refine gd_true_in ?_) | (refine gd_false_in ?_) | (refine gd_true_in' ?_) | (refine gd_false_in' ?_))
  exact k
theorem dlen_nil (k : K (.int .i64 0) w) : Ret Try.prog 35 #[.pointer none] w K := by
  have H := Hp.start (fun _ => False) w
  apply e35
  unfold c35
  repeat (first | ((first | refine val_box H ?_ | refine val_alloc H (fun w => by simp [go_sem]; rfl) ?_); clear H; intro B w hB hp H; clear hB hp; try simp only [List.set_cons_zero, List.set_cons_succ, List.setIfInBounds_toArray, List.set_set, Value.cells] at H) | (first | refine val_ld H (fun w => by simp [go_sem]) (by with_reducible repeat (first | exact At.zero | apply At.succ)) (by rfl) ?_ | refine rd_ld H (fun w => by simp [go_sem]) (by with_reducible repeat (first | exact At.zero | apply At.succ)) (by rfl) ?_ | refine val_ldB H (by with_reducible repeat (first | exact At.zero | apply At.succ)) (aggT (by kernel_rfl)) ?_ | refine rd_ldB H (by with_reducible repeat (first | exact At.zero | apply At.succ)) (aggT (by kernel_rfl)) ?_) | ((first | refine unt_st H (by with_reducible repeat (first | exact At.zero | apply At.succ)) (fun w => by simp [go_sem]) (by rfl) (by rfl) ?_ | refine unt_stB H (by with_reducible repeat (first | exact At.zero | apply At.succ)) (aggT (by kernel_rfl)) (by rfl) (by rfl) ?_); clear H; intro w ho H; clear ho; try simp only [List.set_cons_zero, List.set_cons_succ, List.setIfInBounds_toArray, List.set_set, Value.cells] at H) | (refine val_at_bs ?_; ((refine val_run (by simp [go_sem]; (try simp (disch := omega) only [w_i64, w_u64, w_u32, w_u16, w_u8, w_i32]); rfl) ?_); refine onOk_bs H ?_; clear H; intro B w hB hp H; clear hB hp; try simp only [List.set_cons_zero, List.set_cons_succ, List.setIfInBounds_toArray, List.set_set, Value.cells] at H)) | (first | (refine val_run (by simp [bin, nilc, go_sem]; (try simp (disch := omega) only [w_i64, w_u64, w_u32, w_u16, w_u8, w_i32]); rfl) ?_; refine onOk_in ?_) | (refine pu_run (fun w => by simp [bin, nilc, go_sem]; (try simp (disch := omega) only [w_i64, w_u64, w_u32, w_u16, w_u8, w_i32]); rfl) ?_; refine puR_in ?_) | (refine tk_run (fun w => by simp [bin, nilc, go_sem]; (try simp (disch := omega) only [w_i64, w_u64, w_u32, w_u16, w_u8, w_i32]); rfl) ?_; refine puR_in ?_)) | (refine tk_at_in ?_) | (refine ph_at ?_) | (refine ph_pure (Only.refl _ _) ?_) | (refine ph_k H (by with_reducible repeat (first | exact At.zero | apply At.succ)) ?_) | (refine tk_k (fun w => by simp [go_sem]) (by rfl) ?_) | (refine ph_pure H.only ?_) | (refine ph_pure (hpT.trans H.only (fun _ _ k => k)) ?_) | (refine tk_pld H (fun w => by simp [go_sem]) (by with_reducible repeat (first | exact At.zero | apply At.succ)) (by rfl) ?_) | (refine tk_pldB H (by with_reducible repeat (first | exact At.zero | apply At.succ)) (aggT (by kernel_rfl)) ?_) | (refine gd_true_in ?_) | (refine gd_false_in ?_) | (refine gd_true_in' ?_) | (refine gd_false_in' ?_))
  exact k
theorem dup_ret (H : Hp S w0 w L) (hk : At L j (dkI D ra rb d)) (k : ∀ w', Hp S w0 w' (L.set j (dkI D ra rb { d with down := false })) → K (.tuple #[]) w') : Ret Try.prog 46 #[.pointer (some ⟨D, 0, none⟩)] w K := by
  obtain ⟨a, ca, b, cb, rfl, rfl, H⟩ := H.openDk hk
  apply e46
  unfold c46
  repeat (first | ((first | refine val_box H ?_ | refine val_alloc H (fun w => by simp [go_sem]; rfl) ?_); clear H; intro B w hB hp H; clear hB hp; try simp only [List.set_cons_zero, List.set_cons_succ, List.setIfInBounds_toArray, List.set_set, Value.cells] at H) | (first | refine val_ld H (fun w => by simp [go_sem]) (by with_reducible repeat (first | exact At.zero | apply At.succ)) (by rfl) ?_ | refine rd_ld H (fun w => by simp [go_sem]) (by with_reducible repeat (first | exact At.zero | apply At.succ)) (by rfl) ?_ | refine val_ldB H (by with_reducible repeat (first | exact At.zero | apply At.succ)) (aggT (by kernel_rfl)) ?_ | refine rd_ldB H (by with_reducible repeat (first | exact At.zero | apply At.succ)) (aggT (by kernel_rfl)) ?_) | ((first | refine unt_st H (by with_reducible repeat (first | exact At.zero | apply At.succ)) (fun w => by simp [go_sem]) (by rfl) (by rfl) ?_ | refine unt_stB H (by with_reducible repeat (first | exact At.zero | apply At.succ)) (aggT (by kernel_rfl)) (by rfl) (by rfl) ?_); clear H; intro w ho H; clear ho; try simp only [List.set_cons_zero, List.set_cons_succ, List.setIfInBounds_toArray, List.set_set, Value.cells] at H) | (refine val_at_bs ?_; ((refine val_run (by simp [go_sem]; (try simp (disch := omega) only [w_i64, w_u64, w_u32, w_u16, w_u8, w_i32]); rfl) ?_); refine onOk_bs H ?_; clear H; intro B w hB hp H; clear hB hp; try simp only [List.set_cons_zero, List.set_cons_succ, List.setIfInBounds_toArray, List.set_set, Value.cells] at H)) | (first | (refine val_run (by simp [bin, nilc, go_sem]; (try simp (disch := omega) only [w_i64, w_u64, w_u32, w_u16, w_u8, w_i32]); rfl) ?_; refine onOk_in ?_) | (refine pu_run (fun w => by simp [bin, nilc, go_sem]; (try simp (disch := omega) only [w_i64, w_u64, w_u32, w_u16, w_u8, w_i32]); rfl) ?_; refine puR_in ?_) | (refine tk_run (fun w => by simp [bin, nilc, go_sem]; (try simp (disch := omega) only [w_i64, w_u64, w_u32, w_u16, w_u8, w_i32]); rfl) ?_; refine puR_in ?_)) | (refine tk_at_in ?_) | (refine ph_at ?_) | (refine ph_pure (Only.refl _ _) ?_) | (refine ph_k H (by with_reducible repeat (first | exact At.zero | apply At.succ)) ?_) | (refine tk_k (fun w => by simp [go_sem]) (by rfl) ?_) | (refine ph_pure H.only ?_) | (refine ph_pure (hpT.trans H.only (fun _ _ k => k)) ?_) | (refine tk_pld H (fun w => by simp [go_sem]) (by with_reducible repeat (first | exact At.zero | apply At.succ)) (by rfl) ?_) | (refine tk_pldB H (by with_reducible repeat (first | exact At.zero | apply At.succ)) (aggT (by kernel_rfl)) ?_) | (refine gd_true_in ?_) | (refine gd_false_in ?_) | (refine gd_true_in' ?_) | (refine gd_false_in' ?_))
  refine k _ ?_
  exact (H.shutDk (d := { d with down := false }) rfl rfl rfl rfl rfl).back1 hk
end
end Go.Proofs.Ytchmcjimnliodaa
end
section
set_option linter.unusedSimpArgs false
set_option linter.unusedVariables false
/- What the functions of disk give: New, Write, Sync, Crash, Copy. -/
namespace Go.Proofs.Ytchmcjimnliodaa
open Go Go.RowKit
set_option maxRecDepth 10000
set_option linter.unusedSimpArgs false
set_option linter.unusedVariables false

section
variable {S : Nat → Prop} {w0 w : World} {L : List It} {j D : Nat} {ra rb : Option Nat} {d : Dk} {K : Value → World → Prop}
def zeros : List UInt8 := List.replicate 64 0
theorem zero150 : (Try.prog.info? 150).bind (·.zero) = some (.agg (ub zeros).toArray) := by kernel_rfl
/-- A blank disk. -/
def Dk.blank (n : Nat) : Dk := ⟨List.replicate n zeros, [], false⟩
theorem blank_ok {n : Nat} (h : n ≤ 4096) : (Dk.blank n).ok := ⟨fun s hs => by rw [(List.mem_replicate.1 hs).2]; rfl, fun p hp => absurd hp List.not_mem_nil, by simpa [Dk.blank] using h⟩
theorem dnew_ret {n : Nat} (H : Hp S w0 w L) (h1 : 1 ≤ n) (h2 : n ≤ 4096) (k : ∀ D ra rb w', Hp S w0 w' (dkI D ra rb (Dk.blank n) :: L) → K (.tuple #[.pointer (some ⟨D, 0, none⟩), .int .i64 0]) w') : Ret Try.prog 29 #[.int .i64 n] w K := by
  have i1 : (1 : Int) ≤ n := by omega
  have i2 : (n : Int) ≤ 4096 := by omega
  have hlt : decide ((n : Int) < 1) = false := by simp; omega
  have hgt : decide ((4096 : Int) < n) = false := by simp; omega
  apply e29
  unfold c29
  repeat (first | ((first | refine val_box H ?_ | refine val_alloc H (fun w => by simp [go_sem]; rfl) ?_); clear H; intro B w hB hp H; clear hB hp; try simp only [List.set_cons_zero, List.set_cons_succ, List.setIfInBounds_toArray, List.set_set, Value.cells] at H) | (first | refine val_ld H (fun w => by simp [go_sem]) (by with_reducible repeat (first | exact At.zero | apply At.succ)) (by rfl) ?_ | refine rd_ld H (fun w => by simp [go_sem]) (by with_reducible repeat (first | exact At.zero | apply At.succ)) (by rfl) ?_ | refine val_ldB H (by with_reducible repeat (first | exact At.zero | apply At.succ)) (aggT (by kernel_rfl)) ?_ | refine rd_ldB H (by with_reducible repeat (first | exact At.zero | apply At.succ)) (aggT (by kernel_rfl)) ?_) | ((first | refine unt_st H (by with_reducible repeat (first | exact At.zero | apply At.succ)) (fun w => by simp [go_sem]) (by rfl) (by rfl) ?_ | refine unt_stB H (by with_reducible repeat (first | exact At.zero | apply At.succ)) (aggT (by kernel_rfl)) (by rfl) (by rfl) ?_); clear H; intro w ho H; clear ho; try simp only [List.set_cons_zero, List.set_cons_succ, List.setIfInBounds_toArray, List.set_set, Value.cells] at H) | (refine val_at_bs ?_; ((refine val_run (by simp [go_sem]; (try simp (disch := omega) only [w_i64, w_u64, w_u32, w_u16, w_u8, w_i32]); rfl) ?_); refine onOk_bs H ?_; clear H; intro B w hB hp H; clear hB hp; try simp only [List.set_cons_zero, List.set_cons_succ, List.setIfInBounds_toArray, List.set_set, Value.cells] at H)) | (first | (refine val_run (by simp [bin, nilc, go_sem, hlt, hgt]; (try simp (disch := omega) only [w_i64, w_u64, w_u32, w_u16, w_u8, w_i32]); rfl) ?_; refine onOk_in ?_) | (refine pu_run (fun w => by simp [bin, nilc, go_sem, hlt, hgt]; (try simp (disch := omega) only [w_i64, w_u64, w_u32, w_u16, w_u8, w_i32]); rfl) ?_; refine puR_in ?_) | (refine tk_run (fun w => by simp [bin, nilc, go_sem, hlt, hgt]; (try simp (disch := omega) only [w_i64, w_u64, w_u32, w_u16, w_u8, w_i32]); rfl) ?_; refine puR_in ?_)) | (refine tk_at_in ?_) | (refine ph_at ?_) | (refine ph_pure (Only.refl _ _) ?_) | (refine ph_k H (by with_reducible repeat (first | exact At.zero | apply At.succ)) ?_) | (refine tk_k (fun w => by simp [go_sem]) (by rfl) ?_) | (refine ph_pure H.only ?_) | (refine ph_pure (hpT.trans H.only (fun _ _ k => k)) ?_) | (refine tk_pld H (fun w => by simp [go_sem]) (by with_reducible repeat (first | exact At.zero | apply At.succ)) (by rfl) ?_) | (refine tk_pldB H (by with_reducible repeat (first | exact At.zero | apply At.succ)) (aggT (by kernel_rfl)) ?_) | (refine gd_true_in ?_) | (refine gd_false_in ?_) | (refine gd_true_in' ?_) | (refine gd_false_in' ?_))
  refine val_make H el139 (by omega) (by unfold maxLen; omega) fun B w1 hp H => ?_
  replace H := H _ zero150
  repeat (first | ((first | refine val_box H ?_ | refine val_alloc H (fun w => by simp [go_sem]; rfl) ?_); clear H; intro B w hB hp H; clear hB hp; try simp only [List.set_cons_zero, List.set_cons_succ, List.setIfInBounds_toArray, List.set_set, Value.cells] at H) | (first | refine val_ld H (fun w => by simp [go_sem]) (by with_reducible repeat (first | exact At.zero | apply At.succ)) (by rfl) ?_ | refine rd_ld H (fun w => by simp [go_sem]) (by with_reducible repeat (first | exact At.zero | apply At.succ)) (by rfl) ?_ | refine val_ldB H (by with_reducible repeat (first | exact At.zero | apply At.succ)) (aggT (by kernel_rfl)) ?_ | refine rd_ldB H (by with_reducible repeat (first | exact At.zero | apply At.succ)) (aggT (by kernel_rfl)) ?_) | ((first | refine unt_st H (by with_reducible repeat (first | exact At.zero | apply At.succ)) (fun w => by simp [go_sem]) (by rfl) (by rfl) ?_ | refine unt_stB H (by with_reducible repeat (first | exact At.zero | apply At.succ)) (aggT (by kernel_rfl)) (by rfl) (by rfl) ?_); clear H; intro w ho H; clear ho; try simp only [List.set_cons_zero, List.set_cons_succ, List.setIfInBounds_toArray, List.set_set, Value.cells] at H) | (refine val_at_bs ?_; ((refine val_run (by simp [go_sem]; (try simp (disch := omega) only [w_i64, w_u64, w_u32, w_u16, w_u8, w_i32]); rfl) ?_); refine onOk_bs H ?_; clear H; intro B w hB hp H; clear hB hp; try simp only [List.set_cons_zero, List.set_cons_succ, List.setIfInBounds_toArray, List.set_set, Value.cells] at H)) | (first | (refine val_run (by simp [bin, nilc, go_sem]; (try simp (disch := omega) only [w_i64, w_u64, w_u32, w_u16, w_u8, w_i32]); rfl) ?_; refine onOk_in ?_) | (refine pu_run (fun w => by simp [bin, nilc, go_sem]; (try simp (disch := omega) only [w_i64, w_u64, w_u32, w_u16, w_u8, w_i32]); rfl) ?_; refine puR_in ?_) | (refine tk_run (fun w => by simp [bin, nilc, go_sem]; (try simp (disch := omega) only [w_i64, w_u64, w_u32, w_u16, w_u8, w_i32]); rfl) ?_; refine puR_in ?_)) | (refine tk_at_in ?_) | (refine ph_at ?_) | (refine ph_pure (Only.refl _ _) ?_) | (refine ph_k H (by with_reducible repeat (first | exact At.zero | apply At.succ)) ?_) | (refine tk_k (fun w => by simp [go_sem]) (by rfl) ?_) | (refine ph_pure H.only ?_) | (refine ph_pure (hpT.trans H.only (fun _ _ k => k)) ?_) | (refine tk_pld H (fun w => by simp [go_sem]) (by with_reducible repeat (first | exact At.zero | apply At.succ)) (by rfl) ?_) | (refine tk_pldB H (by with_reducible repeat (first | exact At.zero | apply At.succ)) (aggT (by kernel_rfl)) ?_) | (refine gd_true_in ?_) | (refine gd_false_in ?_) | (refine gd_true_in' ?_) | (refine gd_false_in' ?_))
  have H2 := H.nil 153 65
  replace H2 := H2.perm (List.perm_middle (l₁ := [_, _]))
  simp only [List.cons_append, List.nil_append] at H2
  refine k _ _ _ _ (H2.shutDk (d := Dk.blank n) (by simp [Dk.blank]) rfl rfl ?_ rfl)
  simp [secsC, Dk.blank, List.flatMap_replicate, Value.cells]
theorem dnew_bad {n : Int} (h : n < 1 ∨ 4096 < n) (k : K (.tuple #[.pointer none, .int .i64 1]) w) : Ret Try.prog 29 #[.int .i64 n] w K := by
  have H := Hp.start (fun _ => False) w
  apply e29
  unfold c29
  repeat (first | ((first | refine val_box H ?_ | refine val_alloc H (fun w => by simp [go_sem]; rfl) ?_); clear H; intro B w hB hp H; clear hB hp; try simp only [List.set_cons_zero, List.set_cons_succ, List.setIfInBounds_toArray, List.set_set, Value.cells] at H) | (first | refine val_ld H (fun w => by simp [go_sem]) (by with_reducible repeat (first | exact At.zero | apply At.succ)) (by rfl) ?_ | refine rd_ld H (fun w => by simp [go_sem]) (by with_reducible repeat (first | exact At.zero | apply At.succ)) (by rfl) ?_ | refine val_ldB H (by with_reducible repeat (first | exact At.zero | apply At.succ)) (aggT (by kernel_rfl)) ?_ | refine rd_ldB H (by with_reducible repeat (first | exact At.zero | apply At.succ)) (aggT (by kernel_rfl)) ?_) | ((first | refine unt_st H (by with_reducible repeat (first | exact At.zero | apply At.succ)) (fun w => by simp [go_sem]) (by rfl) (by rfl) ?_ | refine unt_stB H (by with_reducible repeat (first | exact At.zero | apply At.succ)) (aggT (by kernel_rfl)) (by rfl) (by rfl) ?_); clear H; intro w ho H; clear ho; try simp only [List.set_cons_zero, List.set_cons_succ, List.setIfInBounds_toArray, List.set_set, Value.cells] at H) | (refine val_at_bs ?_; ((refine val_run (by simp [go_sem]; (try simp (disch := omega) only [w_i64, w_u64, w_u32, w_u16, w_u8, w_i32]); rfl) ?_); refine onOk_bs H ?_; clear H; intro B w hB hp H; clear hB hp; try simp only [List.set_cons_zero, List.set_cons_succ, List.setIfInBounds_toArray, List.set_set, Value.cells] at H)) | (first | (refine val_run (by simp [bin, nilc, go_sem]; (try simp (disch := omega) only [w_i64, w_u64, w_u32, w_u16, w_u8, w_i32]); rfl) ?_; refine onOk_in ?_) | (refine pu_run (fun w => by simp [bin, nilc, go_sem]; (try simp (disch := omega) only [w_i64, w_u64, w_u32, w_u16, w_u8, w_i32]); rfl) ?_; refine puR_in ?_) | (refine tk_run (fun w => by simp [bin, nilc, go_sem]; (try simp (disch := omega) only [w_i64, w_u64, w_u32, w_u16, w_u8, w_i32]); rfl) ?_; refine puR_in ?_)) | (refine tk_at_in ?_) | (refine ph_at ?_) | (refine ph_pure (Only.refl _ _) ?_) | (refine ph_k H (by with_reducible repeat (first | exact At.zero | apply At.succ)) ?_) | (refine tk_k (fun w => by simp [go_sem]) (by rfl) ?_) | (refine ph_pure H.only ?_) | (refine ph_pure (hpT.trans H.only (fun _ _ k => k)) ?_) | (refine tk_pld H (fun w => by simp [go_sem]) (by with_reducible repeat (first | exact At.zero | apply At.succ)) (by rfl) ?_) | (refine tk_pldB H (by with_reducible repeat (first | exact At.zero | apply At.succ)) (aggT (by kernel_rfl)) ?_) | (refine gd_true_in ?_) | (refine gd_false_in ?_) | (refine gd_true_in' ?_) | (refine gd_false_in' ?_))
  refine gd_dec' (fun h1 => ?_) (fun h1 => ?_)
  · repeat (first | ((first | refine val_box H ?_ | refine val_alloc H (fun w => by simp [go_sem]; rfl) ?_); clear H; intro B w hB hp H; clear hB hp; try simp only [List.set_cons_zero, List.set_cons_succ, List.setIfInBounds_toArray, List.set_set, Value.cells] at H) | (first | refine val_ld H (fun w => by simp [go_sem]) (by with_reducible repeat (first | exact At.zero | apply At.succ)) (by rfl) ?_ | refine rd_ld H (fun w => by simp [go_sem]) (by with_reducible repeat (first | exact At.zero | apply At.succ)) (by rfl) ?_ | refine val_ldB H (by with_reducible repeat (first | exact At.zero | apply At.succ)) (aggT (by kernel_rfl)) ?_ | refine rd_ldB H (by with_reducible repeat (first | exact At.zero | apply At.succ)) (aggT (by kernel_rfl)) ?_) | ((first | refine unt_st H (by with_reducible repeat (first | exact At.zero | apply At.succ)) (fun w => by simp [go_sem]) (by rfl) (by rfl) ?_ | refine unt_stB H (by with_reducible repeat (first | exact At.zero | apply At.succ)) (aggT (by kernel_rfl)) (by rfl) (by rfl) ?_); clear H; intro w ho H; clear ho; try simp only [List.set_cons_zero, List.set_cons_succ, List.setIfInBounds_toArray, List.set_set, Value.cells] at H) | (refine val_at_bs ?_; ((refine val_run (by simp [go_sem]; (try simp (disch := omega) only [w_i64, w_u64, w_u32, w_u16, w_u8, w_i32]); rfl) ?_); refine onOk_bs H ?_; clear H; intro B w hB hp H; clear hB hp; try simp only [List.set_cons_zero, List.set_cons_succ, List.setIfInBounds_toArray, List.set_set, Value.cells] at H)) | (first | (refine val_run (by simp [bin, nilc, go_sem]; (try simp (disch := omega) only [w_i64, w_u64, w_u32, w_u16, w_u8, w_i32]); rfl) ?_; refine onOk_in ?_) | (refine pu_run (fun w => by simp [bin, nilc, go_sem]; (try simp (disch := omega) only [w_i64, w_u64, w_u32, w_u16, w_u8, w_i32]); rfl) ?_; refine puR_in ?_) | (refine tk_run (fun w => by simp [bin, nilc, go_sem]; (try simp (disch := omega) only [w_i64, w_u64, w_u32, w_u16, w_u8, w_i32]); rfl) ?_; refine puR_in ?_)) | (refine tk_at_in ?_) | (refine ph_at ?_) | (refine ph_pure (Only.refl _ _) ?_) | (refine ph_k H (by with_reducible repeat (first | exact At.zero | apply At.succ)) ?_) | (refine tk_k (fun w => by simp [go_sem]) (by rfl) ?_) | (refine ph_pure H.only ?_) | (refine ph_pure (hpT.trans H.only (fun _ _ k => k)) ?_) | (refine tk_pld H (fun w => by simp [go_sem]) (by with_reducible repeat (first | exact At.zero | apply At.succ)) (by rfl) ?_) | (refine tk_pldB H (by with_reducible repeat (first | exact At.zero | apply At.succ)) (aggT (by kernel_rfl)) ?_) | (refine gd_true_in ?_) | (refine gd_false_in ?_) | (refine gd_true_in' ?_) | (refine gd_false_in' ?_))
    refine gd_dec (fun h2 => ?_) (fun h2 => ?_)
    · exact k
    · omega
  · exact k
/-- A blank writing. -/
theorem zero153 : (Value.agg (waitC (0, zeros)).toArray).cells = (waitC (0, zeros)).toArray := rfl
theorem waitC_length (p : Nat × List UInt8) : (waitC p).length = p.2.length + 1 := by simp [waitC, ub_length]
theorem run_build153 (x : Int) (w : World) : (Instr.build 153 #[(0, .int .i64 x)]).run Try.prog w = .ok (.agg (.int .i64 x :: ub zeros).toArray) w := by
  simp [go_sem]
  rfl
theorem zeros_drop (k : Nat) : zeros.drop k = List.replicate (64 - k) 0 := by rw [zeros, List.drop_replicate]
theorem put_pad {x : Value} {b : List UInt8} (h : b.length ≤ 64) : putAt (x :: ub zeros).toArray 1 (ub b) = (x :: ub (pad b)).toArray := by
  unfold putAt
  simp only [List.take_succ_cons, List.take_zero, List.cons_append, List.nil_append, Nat.add_comm 1, List.drop_succ_cons, ub_length]
  rw [← ub_drop, ← ub_append]
  rw [zeros_drop, pad]
set_option maxHeartbeats 1000000 in
theorem agw (x : Value) {s : List UInt8} (h : s.length = 64) : AggT Try.prog 153 (x :: ub s).toArray.size := by
  have e : (x :: ub s).toArray.size = 65 := by simp [ub_length, h]
  rw [e]
  exact ag153
theorem waitsC_snoc (l : List (Nat × List UInt8)) (p : Nat × List UInt8) : waitsC (l ++ [p]) = waitsC l ++ waitC p := by simp [waitsC]
theorem dwrite_ret (hi : (dkI D ra rb d).ok w) (hd : d.down = false) {n m c : Nat} {a : Option Addr} {b : List UInt8} (hn : n < d.l.length) (hN : d.l.length ≤ 4096) (hl : Lies w a (ub b)) (ha : ∀ q, ablk a = some q → ¬ (dkI D ra rb d).fp q) (hm : b.length = m) (h64 : m ≤ 64) (hws : d.ws.length ≤ 1099511627776)
    (k : ∀ rb' w', Hp (dkI D ra rb d).fp w w' [dkI D ra rb' (d.write n b)] → K (.int .i64 0) w') : Ret Try.prog 37 #[.pointer (some ⟨D, 0, none⟩), .int .i64 n, .slice a m c] w K := by
  subst hm
  have H := Hp.one hi
  apply e37
  unfold c37
  refine ddown_ret H .zero ?_
  rw [hd]
  obtain ⟨a1, ca, b1, cb, rfl, rfl, H⟩ := H.openDk .zero
  have i1 : decide ((n : Int) < 0) = false := by simp
  have i2 : decide (d.l.length ≤ n) = false := by simp; omega
  have i3 : decide ((64 : Int) < (b.length : Int)) = false := by simp; omega
  repeat (first | ((first | refine val_box H ?_ | refine val_alloc H (fun w => by simp [go_sem]; rfl) ?_); clear H; intro B w hB hp H; clear hB hp; try simp only [List.set_cons_zero, List.set_cons_succ, List.setIfInBounds_toArray, List.set_set, Value.cells] at H) | (first | refine val_ld H (fun w => by simp [go_sem]) (by with_reducible repeat (first | exact At.zero | apply At.succ)) (by rfl) ?_ | refine rd_ld H (fun w => by simp [go_sem]) (by with_reducible repeat (first | exact At.zero | apply At.succ)) (by rfl) ?_ | refine val_ldB H (by with_reducible repeat (first | exact At.zero | apply At.succ)) (aggT (by kernel_rfl)) ?_ | refine rd_ldB H (by with_reducible repeat (first | exact At.zero | apply At.succ)) (aggT (by kernel_rfl)) ?_) | ((first | refine unt_st H (by with_reducible repeat (first | exact At.zero | apply At.succ)) (fun w => by simp [go_sem]) (by rfl) (by rfl) ?_ | refine unt_stB H (by with_reducible repeat (first | exact At.zero | apply At.succ)) (aggT (by kernel_rfl)) (by rfl) (by rfl) ?_); clear H; intro w ho H; clear ho; try simp only [List.set_cons_zero, List.set_cons_succ, List.setIfInBounds_toArray, List.set_set, Value.cells] at H) | (refine val_at_bs ?_; ((refine val_run (by simp [go_sem]; (try simp (disch := omega) only [w_i64, w_u64, w_u32, w_u16, w_u8, w_i32]); rfl) ?_); refine onOk_bs H ?_; clear H; intro B w hB hp H; clear hB hp; try simp only [List.set_cons_zero, List.set_cons_succ, List.setIfInBounds_toArray, List.set_set, Value.cells] at H)) | (first | (refine val_run (by simp [bin, nilc, go_sem, i1, i2, i3]; (try simp (disch := omega) only [w_i64, w_u64, w_u32, w_u16, w_u8, w_i32]); rfl) ?_; refine onOk_in ?_) | (refine pu_run (fun w => by simp [bin, nilc, go_sem, i1, i2, i3]; (try simp (disch := omega) only [w_i64, w_u64, w_u32, w_u16, w_u8, w_i32]); rfl) ?_; refine puR_in ?_) | (refine tk_run (fun w => by simp [bin, nilc, go_sem, i1, i2, i3]; (try simp (disch := omega) only [w_i64, w_u64, w_u32, w_u16, w_u8, w_i32]); rfl) ?_; refine puR_in ?_)) | (refine tk_at_in ?_) | (refine ph_at ?_) | (refine ph_pure (Only.refl _ _) ?_) | (refine ph_k H (by with_reducible repeat (first | exact At.zero | apply At.succ)) ?_) | (refine tk_k (fun w => by simp [go_sem]) (by rfl) ?_) | (refine ph_pure H.only ?_) | (refine ph_pure (hpT.trans H.only (fun _ _ k => k)) ?_) | (refine tk_pld H (fun w => by simp [go_sem]) (by with_reducible repeat (first | exact At.zero | apply At.succ)) (by rfl) ?_) | (refine tk_pldB H (by with_reducible repeat (first | exact At.zero | apply At.succ)) (aggT (by kernel_rfl)) ?_) | (refine gd_true_in ?_) | (refine gd_false_in ?_) | (refine gd_true_in' ?_) | (refine gd_false_in' ?_))
  have e0 : Try.zeroCells153.setIfInBounds 0 (Value.int IntKind.i64 n) = (Value.int IntKind.i64 n :: ub zeros).toArray := rfl
  rw [e0] at H
  refine val_copyB H el24 (by with_reducible repeat (first | exact At.zero | apply At.succ)) (hl.only H.only ha) (ub_length b) h64 (by simp [ub_length, zeros]; omega) (ub_one b) ?_
  clear H
  intro w ho H
  clear ho
  simp only [List.set_cons_zero, List.set_cons_succ, List.setIfInBounds_toArray, List.set_set, Value.cells] at H
  rw [put_pad h64] at H
  refine drw_u H 1 fun w1 hp H => ?_
  clear hp
  (first | (refine val_run (by simp [bin, nilc, go_sem]; (try simp (disch := omega) only [w_i64, w_u64, w_u32, w_u16, w_u8, w_i32]); rfl) ?_; refine onOk_in ?_) | (refine pu_run (fun w => by simp [bin, nilc, go_sem]; (try simp (disch := omega) only [w_i64, w_u64, w_u32, w_u16, w_u8, w_i32]); rfl) ?_; refine puR_in ?_) | (refine tk_run (fun w => by simp [bin, nilc, go_sem]; (try simp (disch := omega) only [w_i64, w_u64, w_u32, w_u16, w_u8, w_i32]); rfl) ?_; refine puR_in ?_))
  (first | (refine val_run (by simp [bin, nilc, go_sem]; (try simp (disch := omega) only [w_i64, w_u64, w_u32, w_u16, w_u8, w_i32]); rfl) ?_; refine onOk_in ?_) | (refine pu_run (fun w => by simp [bin, nilc, go_sem]; (try simp (disch := omega) only [w_i64, w_u64, w_u32, w_u16, w_u8, w_i32]); rfl) ?_; refine puR_in ?_) | (refine tk_run (fun w => by simp [bin, nilc, go_sem]; (try simp (disch := omega) only [w_i64, w_u64, w_u32, w_u16, w_u8, w_i32]); rfl) ?_; refine puR_in ?_))
  refine tk_uld H (by decide) (fun w => by simp [go_sem]) (by with_reducible repeat (first | exact At.zero | apply At.succ)) (by rfl) ?_
  refine tk_uldB H (by decide) (by with_reducible repeat (first | exact At.zero | apply At.succ)) (agw _ (pad_length h64)) ?_
  refine val_bs1 H el140 (by simp [Value.cells, ub_length, pad]; omega) (by decide) ?_
  intro B2 w2 hB hp2 H
  clear hB
  refine ph_u hp2 ?_
  clear hp2
  simp only [Value.cells] at H
  refine val_app H el140 (by with_reducible repeat (first | exact At.zero | apply At.succ)) (Blk.lies (H.blk (by with_reducible repeat (first | exact At.zero | apply At.succ)))) (by simp [ub_length, pad_length h64]) (waitC_one (n, pad b)) (by unfold maxLen; omega) (by omega) ?_
  clear H
  intro a2 cap2 w ho hat H
  clear ho hat
  simp only [List.set_cons_zero, List.set_cons_succ, List.setIfInBounds_toArray, List.set_set, Value.cells] at H
  refine ph_v (by decide) ?_
  repeat (first | ((first | refine val_box H ?_ | refine val_alloc H (fun w => by simp [go_sem]; rfl) ?_); clear H; intro B w hB hp H; clear hB hp; try simp only [List.set_cons_zero, List.set_cons_succ, List.setIfInBounds_toArray, List.set_set, Value.cells] at H) | (first | refine val_ld H (fun w => by simp [go_sem]) (by with_reducible repeat (first | exact At.zero | apply At.succ)) (by rfl) ?_ | refine rd_ld H (fun w => by simp [go_sem]) (by with_reducible repeat (first | exact At.zero | apply At.succ)) (by rfl) ?_ | refine val_ldB H (by with_reducible repeat (first | exact At.zero | apply At.succ)) (aggT (by kernel_rfl)) ?_ | refine rd_ldB H (by with_reducible repeat (first | exact At.zero | apply At.succ)) (aggT (by kernel_rfl)) ?_) | ((first | refine unt_st H (by with_reducible repeat (first | exact At.zero | apply At.succ)) (fun w => by simp [go_sem]) (by rfl) (by rfl) ?_ | refine unt_stB H (by with_reducible repeat (first | exact At.zero | apply At.succ)) (aggT (by kernel_rfl)) (by rfl) (by rfl) ?_); clear H; intro w ho H; clear ho; try simp only [List.set_cons_zero, List.set_cons_succ, List.setIfInBounds_toArray, List.set_set, Value.cells] at H) | (refine val_at_bs ?_; ((refine val_run (by simp [go_sem]; (try simp (disch := omega) only [w_i64, w_u64, w_u32, w_u16, w_u8, w_i32]); rfl) ?_); refine onOk_bs H ?_; clear H; intro B w hB hp H; clear hB hp; try simp only [List.set_cons_zero, List.set_cons_succ, List.setIfInBounds_toArray, List.set_set, Value.cells] at H)) | (first | (refine val_run (by simp [bin, nilc, go_sem]; (try simp (disch := omega) only [w_i64, w_u64, w_u32, w_u16, w_u8, w_i32]); rfl) ?_; refine onOk_in ?_) | (refine pu_run (fun w => by simp [bin, nilc, go_sem]; (try simp (disch := omega) only [w_i64, w_u64, w_u32, w_u16, w_u8, w_i32]); rfl) ?_; refine puR_in ?_) | (refine tk_run (fun w => by simp [bin, nilc, go_sem]; (try simp (disch := omega) only [w_i64, w_u64, w_u32, w_u16, w_u8, w_i32]); rfl) ?_; refine puR_in ?_)) | (refine tk_at_in ?_) | (refine ph_at ?_) | (refine ph_pure (Only.refl _ _) ?_) | (refine ph_k H (by with_reducible repeat (first | exact At.zero | apply At.succ)) ?_) | (refine tk_k (fun w => by simp [go_sem]) (by rfl) ?_) | (refine ph_pure H.only ?_) | (refine ph_pure (hpT.trans H.only (fun _ _ k => k)) ?_) | (refine tk_pld H (fun w => by simp [go_sem]) (by with_reducible repeat (first | exact At.zero | apply At.succ)) (by rfl) ?_) | (refine tk_pldB H (by with_reducible repeat (first | exact At.zero | apply At.succ)) (aggT (by kernel_rfl)) ?_) | (refine gd_true_in ?_) | (refine gd_false_in ?_) | (refine gd_true_in' ?_) | (refine gd_false_in' ?_) | (refine tk_uld H (by decide) (fun w => by simp [go_sem]) (by with_reducible repeat (first | exact At.zero | apply At.succ)) (by rfl) ?_) | (refine tk_uldB H (by decide) (by with_reducible repeat (first | exact At.zero | apply At.succ)) (aggT (by kernel_rfl)) ?_) | (refine ph_v (by decide) ?_))
  replace H := H.drop (((List.Sublist.refl _).cons _).cons _)
  exact k _ _ (H.shutDk (d := d.write n b) rfl (by simp [Dk.write]) rfl rfl (by simp only [Dk.write]; rw [waitsC_snoc]; rfl))
end
end Go.Proofs.Ytchmcjimnliodaa
end
section
set_option linter.unusedSimpArgs false
set_option linter.unusedVariables false
/- What the functions of disk give: Sync, Crash, Copy, Read. -/
namespace Go.Proofs.Ytchmcjimnliodaa
open Go Go.RowKit
set_option maxRecDepth 10000
set_option linter.unusedSimpArgs false
set_option linter.unusedVariables false

section
variable {S : Nat → Prop} {w0 w : World} {L : List It} {j D : Nat} {ra rb : Option Nat} {d : Dk} {K : Value → World → Prop}
theorem kept_succ (keep : Nat → Bool) (ws : List (Nat × List UInt8)) {i : Nat} (hi : i < ws.length) : kept keep (ws.take (i + 1)) = kept keep (ws.take i) ++ if keep i then [ws[i]] else [] := by
  unfold kept
  rw [List.take_succ_eq_append_getElem hi, List.zipIdx_append, List.filter_append, List.map_append]
  congr 1
  simp only [List.length_take, Nat.min_eq_left (Nat.le_of_lt hi), List.zipIdx_cons, List.zipIdx_nil]
  by_cases h : keep i <;> simp [h]
theorem agw2 {p : Nat × List UInt8} (h : p.2.length = 64) : AggT Try.prog 153 (waitC p).toArray.size := agw _ h
theorem waits_part {ws : List (Nat × List UInt8)} (h : ∀ p ∈ ws, p.2.length = 64) {i : Nat} (hi : i < ws.length) : ((waitsC ws).drop (i * 65)).take 65 = waitC ws[i] := flat_part ws (fun p hp => by rw [waitC_length, h p hp]) hi
theorem secs_part {l : List (List UInt8)} (h : ∀ x ∈ l, x.length = 64) {i : Nat} (hi : i < l.length) : ((secsC l).drop (i * 64)).take 64 = ub l[i] := flat_part l (fun x hx => by rw [ub_length, h x hx]) hi
theorem secs_put {l : List (List UInt8)} (h : ∀ x ∈ l, x.length = 64) {i : Nat} (hi : i < l.length) (y : List UInt8) : secsC (l.set i y) = (secsC l).take (i * 64) ++ ub y ++ (secsC l).drop ((i + 1) * 64) := flat_put l (fun x hx => by rw [ub_length, h x hx]) hi y
set_option maxHeartbeats 1000000 in
theorem settle_ret (hi : (dkI D ra rb d).ok w) (hok : d.ok) (hws : d.ws.length ≤ 1099511627776) {fv : Value} {keep : Nat → Bool}
    (hf : ∀ (i : Nat) (W : World), i < 1099511627776 → Only (dkI D ra rb d).fp w W → ∀ K : Value → World → Prop, (∀ W', Pure W W' → K (.bool (keep i)) W') → dyn Try.prog fv [.int .i64 i] W K)
    (k : ∀ w', Hp (dkI D ra rb d).fp w w' [dkI D ra none (d.settle keep)] → K (.tuple #[]) w') : Ret Try.prog 86 #[.pointer (some ⟨D, 0, none⟩), fv] w K := by
  have H := Hp.one hi
  obtain ⟨a1, ca, b1, cb, rfl, rfl, H⟩ := H.openDk .zero
  apply e86
  unfold c86
  repeat (first | ((first | refine val_box H ?_ | refine val_alloc H (fun w => by simp [go_sem]; rfl) ?_); clear H; intro B w hB hp H; clear hB hp; try simp only [List.set_cons_zero, List.set_cons_succ, List.setIfInBounds_toArray, List.set_set, Value.cells] at H) | (first | refine val_ld H (fun w => by simp [go_sem]) (by with_reducible repeat (first | exact At.zero | apply At.succ)) (by rfl) ?_ | refine rd_ld H (fun w => by simp [go_sem]) (by with_reducible repeat (first | exact At.zero | apply At.succ)) (by rfl) ?_ | refine val_ldB H (by with_reducible repeat (first | exact At.zero | apply At.succ)) (aggT (by kernel_rfl)) ?_ | refine rd_ldB H (by with_reducible repeat (first | exact At.zero | apply At.succ)) (aggT (by kernel_rfl)) ?_) | ((first | refine unt_st H (by with_reducible repeat (first | exact At.zero | apply At.succ)) (fun w => by simp [go_sem]) (by rfl) (by rfl) ?_ | refine unt_stB H (by with_reducible repeat (first | exact At.zero | apply At.succ)) (aggT (by kernel_rfl)) (by rfl) (by rfl) ?_); clear H; intro w ho H; clear ho; try simp only [List.set_cons_zero, List.set_cons_succ, List.setIfInBounds_toArray, List.set_set, Value.cells] at H) | (refine val_at_bs ?_; ((refine val_run (by simp [go_sem]; (try simp (disch := omega) only [w_i64, w_u64, w_u32, w_u16, w_u8, w_i32]); rfl) ?_); refine onOk_bs H ?_; clear H; intro B w hB hp H; clear hB hp; try simp only [List.set_cons_zero, List.set_cons_succ, List.setIfInBounds_toArray, List.set_set, Value.cells] at H)) | (first | (refine val_run (by simp [bin, nilc, go_sem]; (try simp (disch := omega) only [w_i64, w_u64, w_u32, w_u16, w_u8, w_i32]); rfl) ?_; refine onOk_in ?_) | (refine pu_run (fun w => by simp [bin, nilc, go_sem]; (try simp (disch := omega) only [w_i64, w_u64, w_u32, w_u16, w_u8, w_i32]); rfl) ?_; refine puR_in ?_) | (refine tk_run (fun w => by simp [bin, nilc, go_sem]; (try simp (disch := omega) only [w_i64, w_u64, w_u32, w_u16, w_u8, w_i32]); rfl) ?_; refine puR_in ?_)) | (refine tk_at_in ?_) | (refine ph_at ?_) | (refine ph_pure (Only.refl _ _) ?_) | (refine ph_k H (by with_reducible repeat (first | exact At.zero | apply At.succ)) ?_) | (refine tk_k (fun w => by simp [go_sem]) (by rfl) ?_) | (refine ph_pure H.only ?_) | (refine ph_pure (hpT.trans H.only (fun _ _ k => k)) ?_) | (refine tk_pld H (fun w => by simp [go_sem]) (by with_reducible repeat (first | exact At.zero | apply At.succ)) (by rfl) ?_) | (refine tk_pldB H (by with_reducible repeat (first | exact At.zero | apply At.succ)) (aggT (by kernel_rfl)) ?_) | (refine gd_true_in ?_) | (refine gd_false_in ?_) | (refine gd_true_in' ?_) | (refine gd_false_in' ?_))
  refine loop1 (fun v W => ∃ i : Nat, i ≤ d.ws.length ∧ v = .int .i64 i ∧ Hp (dkI D (ablk a1) (ablk b1) d).fp w W [.blk D #[.slice a1 d.l.length ca, .slice b1 d.ws.length cb, .bool d.down] 142, .row 150 64 a1 d.l.length ca (secsC (puts d.l (kept keep (d.ws.take i)))), .row 153 65 b1 d.ws.length cb (waitsC d.ws)]) (fun v _ => d.ws.length - (intOf v).toNat) ⟨0, by omega, rfl, by simpa [kept, puts] using H⟩ ?_
  clear H
  rintro _ w2 ⟨i, hile, rfl, H⟩
  unfold c86_1
  repeat (first | ((first | refine val_box H ?_ | refine val_alloc H (fun w => by simp [go_sem]; rfl) ?_); clear H; intro B w hB hp H; clear hB hp; try simp only [List.set_cons_zero, List.set_cons_succ, List.setIfInBounds_toArray, List.set_set, Value.cells] at H) | (first | refine val_ld H (fun w => by simp [go_sem]) (by with_reducible repeat (first | exact At.zero | apply At.succ)) (by rfl) ?_ | refine rd_ld H (fun w => by simp [go_sem]) (by with_reducible repeat (first | exact At.zero | apply At.succ)) (by rfl) ?_ | refine val_ldB H (by with_reducible repeat (first | exact At.zero | apply At.succ)) (aggT (by kernel_rfl)) ?_ | refine rd_ldB H (by with_reducible repeat (first | exact At.zero | apply At.succ)) (aggT (by kernel_rfl)) ?_) | ((first | refine unt_st H (by with_reducible repeat (first | exact At.zero | apply At.succ)) (fun w => by simp [go_sem]) (by rfl) (by rfl) ?_ | refine unt_stB H (by with_reducible repeat (first | exact At.zero | apply At.succ)) (aggT (by kernel_rfl)) (by rfl) (by rfl) ?_); clear H; intro w ho H; clear ho; try simp only [List.set_cons_zero, List.set_cons_succ, List.setIfInBounds_toArray, List.set_set, Value.cells] at H) | (refine val_at_bs ?_; ((refine val_run (by simp [go_sem]; (try simp (disch := omega) only [w_i64, w_u64, w_u32, w_u16, w_u8, w_i32]); rfl) ?_); refine onOk_bs H ?_; clear H; intro B w hB hp H; clear hB hp; try simp only [List.set_cons_zero, List.set_cons_succ, List.setIfInBounds_toArray, List.set_set, Value.cells] at H)) | (first | (refine val_run (by simp [bin, nilc, go_sem]; (try simp (disch := omega) only [w_i64, w_u64, w_u32, w_u16, w_u8, w_i32]); rfl) ?_; refine onOk_in ?_) | (refine pu_run (fun w => by simp [bin, nilc, go_sem]; (try simp (disch := omega) only [w_i64, w_u64, w_u32, w_u16, w_u8, w_i32]); rfl) ?_; refine puR_in ?_) | (refine tk_run (fun w => by simp [bin, nilc, go_sem]; (try simp (disch := omega) only [w_i64, w_u64, w_u32, w_u16, w_u8, w_i32]); rfl) ?_; refine puR_in ?_)) | (refine tk_at_in ?_) | (refine ph_at ?_) | (refine ph_pure (Only.refl _ _) ?_) | (refine ph_k H (by with_reducible repeat (first | exact At.zero | apply At.succ)) ?_) | (refine tk_k (fun w => by simp [go_sem]) (by rfl) ?_) | (refine ph_pure H.only ?_) | (refine ph_pure (hpT.trans H.only (fun _ _ k => k)) ?_) | (refine tk_pld H (fun w => by simp [go_sem]) (by with_reducible repeat (first | exact At.zero | apply At.succ)) (by rfl) ?_) | (refine tk_pldB H (by with_reducible repeat (first | exact At.zero | apply At.succ)) (aggT (by kernel_rfl)) ?_) | (refine gd_true_in ?_) | (refine gd_false_in ?_) | (refine gd_true_in' ?_) | (refine gd_false_in' ?_))
  refine gd_dec (fun hlt => ?_) (fun hlt => ?_)
  · have hlt0 : i < d.ws.length := by omega
    obtain ⟨b, rfl, _⟩ := (H.row (xs := waitsC d.ws) (by with_reducible repeat (first | exact At.zero | apply At.succ))).addr (by omega)
    have hp64 := (hok.ws d.ws[i] (List.getElem_mem hlt0))
    have hpl : (puts d.l (kept keep (d.ws.take i))).length = d.l.length := puts_length _ _
    have hsec : ∀ x ∈ puts d.l (kept keep (d.ws.take i)), x.length = 64 := by
      intro x hx
      obtain ⟨jj, hj⟩ := List.getElem?_of_mem hx
      exact puts_each (Q := fun _ s => s.length = 64) _ d.l (fun j s hj => hok.sec s (List.mem_of_getElem? hj)) (fun p hp => (hok.ws p (List.mem_of_mem_take (kept_sub hp))).2) jj x hj
    have hwl : ∀ p ∈ d.ws, (waitC p).length = 65 := fun p hp => by rw [waitC_length, (hok.ws p hp).2]
    obtain ⟨a, rfl, _⟩ := (H.row (xs := secsC (puts d.l (kept keep (d.ws.take i)))) (by with_reducible repeat (first | exact At.zero | apply At.succ))).addr (by omega)
    repeat (first | ((first | refine val_box H ?_ | refine val_alloc H (fun w => by simp [go_sem]; rfl) ?_); clear H; intro B w hB hp H; clear hB hp; try simp only [List.set_cons_zero, List.set_cons_succ, List.setIfInBounds_toArray, List.set_set, Value.cells] at H) | (first | refine val_ld H (fun w => by simp [go_sem]) (by with_reducible repeat (first | exact At.zero | apply At.succ)) (by rfl) ?_ | refine rd_ld H (fun w => by simp [go_sem]) (by with_reducible repeat (first | exact At.zero | apply At.succ)) (by rfl) ?_ | refine val_ldB H (by with_reducible repeat (first | exact At.zero | apply At.succ)) (aggT (by kernel_rfl)) ?_ | refine rd_ldB H (by with_reducible repeat (first | exact At.zero | apply At.succ)) (aggT (by kernel_rfl)) ?_) | ((first | refine unt_st H (by with_reducible repeat (first | exact At.zero | apply At.succ)) (fun w => by simp [go_sem]) (by rfl) (by rfl) ?_ | refine unt_stB H (by with_reducible repeat (first | exact At.zero | apply At.succ)) (aggT (by kernel_rfl)) (by rfl) (by rfl) ?_); clear H; intro w ho H; clear ho; try simp only [List.set_cons_zero, List.set_cons_succ, List.setIfInBounds_toArray, List.set_set, Value.cells] at H) | (refine val_at_bs ?_; ((refine val_run (by simp [go_sem]; (try simp (disch := omega) only [w_i64, w_u64, w_u32, w_u16, w_u8, w_i32]); rfl) ?_); refine onOk_bs H ?_; clear H; intro B w hB hp H; clear hB hp; try simp only [List.set_cons_zero, List.set_cons_succ, List.setIfInBounds_toArray, List.set_set, Value.cells] at H)) | (first | (refine val_run (by simp [bin, nilc, go_sem, hlt]; (try simp (disch := omega) only [w_i64, w_u64, w_u32, w_u16, w_u8, w_i32]); rfl) ?_; refine onOk_in ?_) | (refine pu_run (fun w => by simp [bin, nilc, go_sem, hlt]; (try simp (disch := omega) only [w_i64, w_u64, w_u32, w_u16, w_u8, w_i32]); rfl) ?_; refine puR_in ?_) | (refine tk_run (fun w => by simp [bin, nilc, go_sem, hlt]; (try simp (disch := omega) only [w_i64, w_u64, w_u32, w_u16, w_u8, w_i32]); rfl) ?_; refine puR_in ?_)) | (refine tk_at_in ?_) | (refine ph_at ?_) | (refine ph_pure (Only.refl _ _) ?_) | (refine ph_k H (by with_reducible repeat (first | exact At.zero | apply At.succ)) ?_) | (refine tk_k (fun w => by simp [go_sem]) (by rfl) ?_) | (refine ph_pure H.only ?_) | (refine ph_pure (hpT.trans H.only (fun _ _ k => k)) ?_) | (refine tk_pld H (fun w => by simp [go_sem]) (by with_reducible repeat (first | exact At.zero | apply At.succ)) (by rfl) ?_) | (refine tk_pldB H (by with_reducible repeat (first | exact At.zero | apply At.succ)) (aggT (by kernel_rfl)) ?_) | (refine gd_true_in ?_) | (refine gd_false_in ?_) | (refine gd_true_in' ?_) | (refine gd_false_in' ?_))
    refine val_ldrS H (by with_reducible repeat (first | exact At.zero | apply At.succ)) (aggT (by kernel_rfl)) (waits_part (fun p hp => (hok.ws p hp).2) hlt0) (hwl _ (List.getElem_mem hlt0)) ?_
    ((first | refine val_box H ?_ | refine val_alloc H (fun w => by simp [go_sem]; rfl) ?_); clear H; intro B w hB hp H; clear hB hp; try simp only [List.set_cons_zero, List.set_cons_succ, List.setIfInBounds_toArray, List.set_set, Value.cells] at H)
    refine unt_stB H (by with_reducible repeat (first | exact At.zero | apply At.succ)) (agw2 hp64.2) (by simp [waitC_length, hp64.2]) (List.all_eq_true.2 (waitC_one _)) ?_
    clear H
    intro w3 ho H
    clear ho
    simp only [List.set_cons_zero, List.set_cons_succ, List.setIfInBounds_toArray, List.set_set, Value.cells] at H
    refine hf i w3 (by omega) H.only _ fun w4 hp4 => ?_
    replace H := H.pure hp4
    clear hp4
    refine gd_case (fun hkp => ?_) (fun hkp => ?_)
    · refine drw_in H fun w5 hp5 H => ?_
      clear hp5
      obtain ⟨p, hp⟩ : ∃ p, p = d.ws[i] := ⟨_, rfl⟩
      have ewc : waitC p = .int .i64 p.1 :: ub p.2 := rfl
      rw [← hp] at H hp64
      rw [ewc] at H
      have hp1 : (p.1 : Int) < (d.l.length : Int) := by omega
      repeat (first | ((first | refine val_box H ?_ | refine val_alloc H (fun w => by simp [go_sem]; rfl) ?_); clear H; intro B w hB hp H; clear hB hp; try simp only [List.set_cons_zero, List.set_cons_succ, List.setIfInBounds_toArray, List.set_set, Value.cells] at H) | (first | refine val_ld H (fun w => by simp [go_sem]) (by with_reducible repeat (first | exact At.zero | apply At.succ)) (by rfl) ?_ | refine rd_ld H (fun w => by simp [go_sem]) (by with_reducible repeat (first | exact At.zero | apply At.succ)) (by rfl) ?_ | refine val_ldB H (by with_reducible repeat (first | exact At.zero | apply At.succ)) (aggT (by kernel_rfl)) ?_ | refine rd_ldB H (by with_reducible repeat (first | exact At.zero | apply At.succ)) (aggT (by kernel_rfl)) ?_) | ((first | refine unt_st H (by with_reducible repeat (first | exact At.zero | apply At.succ)) (fun w => by simp [go_sem]) (by rfl) (by rfl) ?_ | refine unt_stB H (by with_reducible repeat (first | exact At.zero | apply At.succ)) (aggT (by kernel_rfl)) (by rfl) (by rfl) ?_); clear H; intro w ho H; clear ho; try simp only [List.set_cons_zero, List.set_cons_succ, List.setIfInBounds_toArray, List.set_set, Value.cells] at H) | (refine val_at_bs ?_; ((refine val_run (by simp [go_sem]; (try simp (disch := omega) only [w_i64, w_u64, w_u32, w_u16, w_u8, w_i32]); rfl) ?_); refine onOk_bs H ?_; clear H; intro B w hB hp H; clear hB hp; try simp only [List.set_cons_zero, List.set_cons_succ, List.setIfInBounds_toArray, List.set_set, Value.cells] at H)) | (first | (refine val_run (by simp [bin, nilc, go_sem, hp1]; (try simp (disch := omega) only [w_i64, w_u64, w_u32, w_u16, w_u8, w_i32]); rfl) ?_; refine onOk_in ?_) | (refine pu_run (fun w => by simp [bin, nilc, go_sem, hp1]; (try simp (disch := omega) only [w_i64, w_u64, w_u32, w_u16, w_u8, w_i32]); rfl) ?_; refine puR_in ?_) | (refine tk_run (fun w => by simp [bin, nilc, go_sem, hp1]; (try simp (disch := omega) only [w_i64, w_u64, w_u32, w_u16, w_u8, w_i32]); rfl) ?_; refine puR_in ?_)) | (refine tk_at_in ?_) | (refine ph_at ?_) | (refine ph_pure (Only.refl _ _) ?_) | (refine ph_k H (by with_reducible repeat (first | exact At.zero | apply At.succ)) ?_) | (refine tk_k (fun w => by simp [go_sem]) (by rfl) ?_) | (refine ph_pure H.only ?_) | (refine ph_pure (hpT.trans H.only (fun _ _ k => k)) ?_) | (refine tk_pld H (fun w => by simp [go_sem]) (by with_reducible repeat (first | exact At.zero | apply At.succ)) (by rfl) ?_) | (refine tk_pldB H (by with_reducible repeat (first | exact At.zero | apply At.succ)) (aggT (by kernel_rfl)) ?_) | (refine gd_true_in ?_) | (refine gd_false_in ?_) | (refine gd_true_in' ?_) | (refine gd_false_in' ?_))
      have hx : (((Value.int .i64 (p.1 : Nat) :: ub p.2).toArray.toList.drop 1).take 64).toArray = (ub p.2).toArray := by
        simp only [List.drop_succ_cons, List.drop_zero]
        rw [List.take_of_length_le (by rw [ub_length]; omega)]
      refine rd_ldO H (n := 64) (by with_reducible repeat (first | exact At.zero | apply At.succ)) hx (by simp only [List.size_toArray, ub_length, hp64.2]; exact ag150) ?_
      (first | (refine val_run (by simp [bin, nilc, go_sem, hp1]; (try simp (disch := omega) only [w_i64, w_u64, w_u32, w_u16, w_u8, w_i32]); rfl) ?_; refine onOk_in ?_) | (refine pu_run (fun w => by simp [bin, nilc, go_sem, hp1]; (try simp (disch := omega) only [w_i64, w_u64, w_u32, w_u16, w_u8, w_i32]); rfl) ?_; refine puR_in ?_) | (refine tk_run (fun w => by simp [bin, nilc, go_sem, hp1]; (try simp (disch := omega) only [w_i64, w_u64, w_u32, w_u16, w_u8, w_i32]); rfl) ?_; refine puR_in ?_))
      refine unt_strS H (by with_reducible repeat (first | exact At.zero | apply At.succ)) ag150 (by rw [ub_length]; exact hp64.2) (ub_one _) hp64.1 rfl (secs_put hsec (by rw [hpl]; exact hp64.1) p.2) ?_
      clear H
      intro w6 ho H
      clear ho
      simp only [List.set_cons_zero, List.set_cons_succ, List.setIfInBounds_toArray, List.set_set, Value.cells] at H
      refine ph_at ?_
      repeat (first | ((first | refine val_box H ?_ | refine val_alloc H (fun w => by simp [go_sem]; rfl) ?_); clear H; intro B w hB hp H; clear hB hp; try simp only [List.set_cons_zero, List.set_cons_succ, List.setIfInBounds_toArray, List.set_set, Value.cells] at H) | (first | refine val_ld H (fun w => by simp [go_sem]) (by with_reducible repeat (first | exact At.zero | apply At.succ)) (by rfl) ?_ | refine rd_ld H (fun w => by simp [go_sem]) (by with_reducible repeat (first | exact At.zero | apply At.succ)) (by rfl) ?_ | refine val_ldB H (by with_reducible repeat (first | exact At.zero | apply At.succ)) (aggT (by kernel_rfl)) ?_ | refine rd_ldB H (by with_reducible repeat (first | exact At.zero | apply At.succ)) (aggT (by kernel_rfl)) ?_) | ((first | refine unt_st H (by with_reducible repeat (first | exact At.zero | apply At.succ)) (fun w => by simp [go_sem]) (by rfl) (by rfl) ?_ | refine unt_stB H (by with_reducible repeat (first | exact At.zero | apply At.succ)) (aggT (by kernel_rfl)) (by rfl) (by rfl) ?_); clear H; intro w ho H; clear ho; try simp only [List.set_cons_zero, List.set_cons_succ, List.setIfInBounds_toArray, List.set_set, Value.cells] at H) | (refine val_at_bs ?_; ((refine val_run (by simp [go_sem]; (try simp (disch := omega) only [w_i64, w_u64, w_u32, w_u16, w_u8, w_i32]); rfl) ?_); refine onOk_bs H ?_; clear H; intro B w hB hp H; clear hB hp; try simp only [List.set_cons_zero, List.set_cons_succ, List.setIfInBounds_toArray, List.set_set, Value.cells] at H)) | (first | (refine val_run (by simp [bin, nilc, go_sem]; (try simp (disch := omega) only [w_i64, w_u64, w_u32, w_u16, w_u8, w_i32]); rfl) ?_; refine onOk_in ?_) | (refine pu_run (fun w => by simp [bin, nilc, go_sem]; (try simp (disch := omega) only [w_i64, w_u64, w_u32, w_u16, w_u8, w_i32]); rfl) ?_; refine puR_in ?_) | (refine tk_run (fun w => by simp [bin, nilc, go_sem]; (try simp (disch := omega) only [w_i64, w_u64, w_u32, w_u16, w_u8, w_i32]); rfl) ?_; refine puR_in ?_)) | (refine tk_at_in ?_) | (refine ph_at ?_) | (refine ph_pure (Only.refl _ _) ?_) | (refine ph_k H (by with_reducible repeat (first | exact At.zero | apply At.succ)) ?_) | (refine tk_k (fun w => by simp [go_sem]) (by rfl) ?_) | (refine ph_pure H.only ?_) | (refine ph_pure (hpT.trans H.only (fun _ _ k => k)) ?_) | (refine tk_pld H (fun w => by simp [go_sem]) (by with_reducible repeat (first | exact At.zero | apply At.succ)) (by rfl) ?_) | (refine tk_pldB H (by with_reducible repeat (first | exact At.zero | apply At.succ)) (aggT (by kernel_rfl)) ?_) | (refine gd_true_in ?_) | (refine gd_false_in ?_) | (refine gd_true_in' ?_) | (refine gd_false_in' ?_))
      have e2 : (puts d.l (kept keep (d.ws.take i))).set p.1 p.2 = puts d.l (kept keep (d.ws.take (i + 1))) := by
        rw [kept_succ keep d.ws hlt0, hkp, if_pos rfl, puts_append, ← hp]
        rfl
      rw [e2] at H
      exact ⟨⟨i + 1, by omega, by simp, H.tail⟩, by simp [intOf]; omega⟩
    · repeat (first | ((first | refine val_box H ?_ | refine val_alloc H (fun w => by simp [go_sem]; rfl) ?_); clear H; intro B w hB hp H; clear hB hp; try simp only [List.set_cons_zero, List.set_cons_succ, List.setIfInBounds_toArray, List.set_set, Value.cells] at H) | (first | refine val_ld H (fun w => by simp [go_sem]) (by with_reducible repeat (first | exact At.zero | apply At.succ)) (by rfl) ?_ | refine rd_ld H (fun w => by simp [go_sem]) (by with_reducible repeat (first | exact At.zero | apply At.succ)) (by rfl) ?_ | refine val_ldB H (by with_reducible repeat (first | exact At.zero | apply At.succ)) (aggT (by kernel_rfl)) ?_ | refine rd_ldB H (by with_reducible repeat (first | exact At.zero | apply At.succ)) (aggT (by kernel_rfl)) ?_) | ((first | refine unt_st H (by with_reducible repeat (first | exact At.zero | apply At.succ)) (fun w => by simp [go_sem]) (by rfl) (by rfl) ?_ | refine unt_stB H (by with_reducible repeat (first | exact At.zero | apply At.succ)) (aggT (by kernel_rfl)) (by rfl) (by rfl) ?_); clear H; intro w ho H; clear ho; try simp only [List.set_cons_zero, List.set_cons_succ, List.setIfInBounds_toArray, List.set_set, Value.cells] at H) | (refine val_at_bs ?_; ((refine val_run (by simp [go_sem]; (try simp (disch := omega) only [w_i64, w_u64, w_u32, w_u16, w_u8, w_i32]); rfl) ?_); refine onOk_bs H ?_; clear H; intro B w hB hp H; clear hB hp; try simp only [List.set_cons_zero, List.set_cons_succ, List.setIfInBounds_toArray, List.set_set, Value.cells] at H)) | (first | (refine val_run (by simp [bin, nilc, go_sem]; (try simp (disch := omega) only [w_i64, w_u64, w_u32, w_u16, w_u8, w_i32]); rfl) ?_; refine onOk_in ?_) | (refine pu_run (fun w => by simp [bin, nilc, go_sem]; (try simp (disch := omega) only [w_i64, w_u64, w_u32, w_u16, w_u8, w_i32]); rfl) ?_; refine puR_in ?_) | (refine tk_run (fun w => by simp [bin, nilc, go_sem]; (try simp (disch := omega) only [w_i64, w_u64, w_u32, w_u16, w_u8, w_i32]); rfl) ?_; refine puR_in ?_)) | (refine tk_at_in ?_) | (refine ph_at ?_) | (refine ph_pure (Only.refl _ _) ?_) | (refine ph_k H (by with_reducible repeat (first | exact At.zero | apply At.succ)) ?_) | (refine tk_k (fun w => by simp [go_sem]) (by rfl) ?_) | (refine ph_pure H.only ?_) | (refine ph_pure (hpT.trans H.only (fun _ _ k => k)) ?_) | (refine tk_pld H (fun w => by simp [go_sem]) (by with_reducible repeat (first | exact At.zero | apply At.succ)) (by rfl) ?_) | (refine tk_pldB H (by with_reducible repeat (first | exact At.zero | apply At.succ)) (aggT (by kernel_rfl)) ?_) | (refine gd_true_in ?_) | (refine gd_false_in ?_) | (refine gd_true_in' ?_) | (refine gd_false_in' ?_))
      have e2 : kept keep (d.ws.take i) = kept keep (d.ws.take (i + 1)) := by
        rw [kept_succ keep d.ws hlt0, hkp]
        simp
      rw [e2] at H
      exact ⟨⟨i + 1, by omega, by simp, H.tail⟩, by simp [intOf]; omega⟩
  · have hie : i = d.ws.length := by omega
    subst hie
    rw [List.take_length] at H
    repeat (first | ((first | refine val_box H ?_ | refine val_alloc H (fun w => by simp [go_sem]; rfl) ?_); clear H; intro B w hB hp H; clear hB hp; try simp only [List.set_cons_zero, List.set_cons_succ, List.setIfInBounds_toArray, List.set_set, Value.cells] at H) | (first | refine val_ld H (fun w => by simp [go_sem]) (by with_reducible repeat (first | exact At.zero | apply At.succ)) (by rfl) ?_ | refine rd_ld H (fun w => by simp [go_sem]) (by with_reducible repeat (first | exact At.zero | apply At.succ)) (by rfl) ?_ | refine val_ldB H (by with_reducible repeat (first | exact At.zero | apply At.succ)) (aggT (by kernel_rfl)) ?_ | refine rd_ldB H (by with_reducible repeat (first | exact At.zero | apply At.succ)) (aggT (by kernel_rfl)) ?_) | ((first | refine unt_st H (by with_reducible repeat (first | exact At.zero | apply At.succ)) (fun w => by simp [go_sem]) (by rfl) (by rfl) ?_ | refine unt_stB H (by with_reducible repeat (first | exact At.zero | apply At.succ)) (aggT (by kernel_rfl)) (by rfl) (by rfl) ?_); clear H; intro w ho H; clear ho; try simp only [List.set_cons_zero, List.set_cons_succ, List.setIfInBounds_toArray, List.set_set, Value.cells] at H) | (refine val_at_bs ?_; ((refine val_run (by simp [go_sem]; (try simp (disch := omega) only [w_i64, w_u64, w_u32, w_u16, w_u8, w_i32]); rfl) ?_); refine onOk_bs H ?_; clear H; intro B w hB hp H; clear hB hp; try simp only [List.set_cons_zero, List.set_cons_succ, List.setIfInBounds_toArray, List.set_set, Value.cells] at H)) | (first | (refine val_run (by simp [bin, nilc, go_sem]; (try simp (disch := omega) only [w_i64, w_u64, w_u32, w_u16, w_u8, w_i32]); rfl) ?_; refine onOk_in ?_) | (refine pu_run (fun w => by simp [bin, nilc, go_sem]; (try simp (disch := omega) only [w_i64, w_u64, w_u32, w_u16, w_u8, w_i32]); rfl) ?_; refine puR_in ?_) | (refine tk_run (fun w => by simp [bin, nilc, go_sem]; (try simp (disch := omega) only [w_i64, w_u64, w_u32, w_u16, w_u8, w_i32]); rfl) ?_; refine puR_in ?_)) | (refine tk_at_in ?_) | (refine ph_at ?_) | (refine ph_pure (Only.refl _ _) ?_) | (refine ph_k H (by with_reducible repeat (first | exact At.zero | apply At.succ)) ?_) | (refine tk_k (fun w => by simp [go_sem]) (by rfl) ?_) | (refine ph_pure H.only ?_) | (refine ph_pure (hpT.trans H.only (fun _ _ k => k)) ?_) | (refine tk_pld H (fun w => by simp [go_sem]) (by with_reducible repeat (first | exact At.zero | apply At.succ)) (by rfl) ?_) | (refine tk_pldB H (by with_reducible repeat (first | exact At.zero | apply At.succ)) (aggT (by kernel_rfl)) ?_) | (refine gd_true_in ?_) | (refine gd_false_in ?_) | (refine gd_true_in' ?_) | (refine gd_false_in' ?_))
    replace H := ((H.drop (L' := [_, _]) (((List.Sublist.refl _).cons _).cons_cons _ |>.cons_cons _)).nil 153 65).perm (List.perm_middle (l₁ := [_, _]))
    simp only [List.cons_append, List.nil_append] at H
    exact k _ (H.shutDk (d := d.settle keep) (by simp [Dk.settle, puts_length]) rfl rfl rfl rfl)
theorem dsync_ret (hi : (dkI D ra rb d).ok w) (hok : d.ok) (hd : d.down = false) (hws : d.ws.length ≤ 1099511627776) (k : ∀ w', Hp (dkI D ra rb d).fp w w' [dkI D ra none (d.settle fun _ => true)] → K (.int .i64 0) w') : Ret Try.prog 38 #[.pointer (some ⟨D, 0, none⟩)] w K := by
  apply e38
  unfold c38
  refine ddown_ret (Hp.one hi) .zero ?_
  rw [hd]
  refine gd_false_in ?_
  refine settle_ret hi hok hws (keep := fun _ => true) (fun i W _ _ K kk => dyn_func (e87 (kk W (Only.refl _ _)))) fun w' h => ?_
  exact k w' h
theorem dsync_down (hi : (dkI D ra rb d).ok w) (hd : d.down = true) (k : K (.int .i64 19) w) : Ret Try.prog 38 #[.pointer (some ⟨D, 0, none⟩)] w K := by
  apply e38
  unfold c38
  refine ddown_ret (Hp.one hi) .zero ?_
  rw [hd]
  refine gd_true_in ?_
  exact k
/-- It is down. -/
theorem setdown (H : Hp S w0 w [dkI D ra rb d]) (k : ∀ w', Hp S w0 w' [dkI D ra rb { d with down := true }] → K (.tuple #[]) w') :
    val Try.prog (nilc (.pointer (some ⟨D, 0, none⟩))) w fun x12 w => val Try.prog (Instr.fieldAt 142 x12 2) w fun x13 w => unt Try.prog (st1 4 x13 (Value.bool true)) w fun w => K (.tuple #[]) w := by
  obtain ⟨a1, ca, b1, cb, rfl, rfl, H⟩ := H.openDk .zero
  repeat (first | ((first | refine val_box H ?_ | refine val_alloc H (fun w => by simp [go_sem]; rfl) ?_); clear H; intro B w hB hp H; clear hB hp; try simp only [List.set_cons_zero, List.set_cons_succ, List.setIfInBounds_toArray, List.set_set, Value.cells] at H) | (first | refine val_ld H (fun w => by simp [go_sem]) (by with_reducible repeat (first | exact At.zero | apply At.succ)) (by rfl) ?_ | refine rd_ld H (fun w => by simp [go_sem]) (by with_reducible repeat (first | exact At.zero | apply At.succ)) (by rfl) ?_ | refine val_ldB H (by with_reducible repeat (first | exact At.zero | apply At.succ)) (aggT (by kernel_rfl)) ?_ | refine rd_ldB H (by with_reducible repeat (first | exact At.zero | apply At.succ)) (aggT (by kernel_rfl)) ?_) | ((first | refine unt_st H (by with_reducible repeat (first | exact At.zero | apply At.succ)) (fun w => by simp [go_sem]) (by rfl) (by rfl) ?_ | refine unt_stB H (by with_reducible repeat (first | exact At.zero | apply At.succ)) (aggT (by kernel_rfl)) (by rfl) (by rfl) ?_); clear H; intro w ho H; clear ho; try simp only [List.set_cons_zero, List.set_cons_succ, List.setIfInBounds_toArray, List.set_set, Value.cells] at H) | (refine val_at_bs ?_; ((refine val_run (by simp [go_sem]; (try simp (disch := omega) only [w_i64, w_u64, w_u32, w_u16, w_u8, w_i32]); rfl) ?_); refine onOk_bs H ?_; clear H; intro B w hB hp H; clear hB hp; try simp only [List.set_cons_zero, List.set_cons_succ, List.setIfInBounds_toArray, List.set_set, Value.cells] at H)) | (first | (refine val_run (by simp [bin, nilc, go_sem]; (try simp (disch := omega) only [w_i64, w_u64, w_u32, w_u16, w_u8, w_i32]); rfl) ?_; refine onOk_in ?_) | (refine pu_run (fun w => by simp [bin, nilc, go_sem]; (try simp (disch := omega) only [w_i64, w_u64, w_u32, w_u16, w_u8, w_i32]); rfl) ?_; refine puR_in ?_) | (refine tk_run (fun w => by simp [bin, nilc, go_sem]; (try simp (disch := omega) only [w_i64, w_u64, w_u32, w_u16, w_u8, w_i32]); rfl) ?_; refine puR_in ?_)) | (refine tk_at_in ?_) | (refine ph_at ?_) | (refine ph_pure (Only.refl _ _) ?_) | (refine ph_k H (by with_reducible repeat (first | exact At.zero | apply At.succ)) ?_) | (refine tk_k (fun w => by simp [go_sem]) (by rfl) ?_) | (refine ph_pure H.only ?_) | (refine ph_pure (hpT.trans H.only (fun _ _ k => k)) ?_) | (refine tk_pld H (fun w => by simp [go_sem]) (by with_reducible repeat (first | exact At.zero | apply At.succ)) (by rfl) ?_) | (refine tk_pldB H (by with_reducible repeat (first | exact At.zero | apply At.succ)) (aggT (by kernel_rfl)) ?_) | (refine gd_true_in ?_) | (refine gd_false_in ?_) | (refine gd_true_in' ?_) | (refine gd_false_in' ?_))
  exact k _ (H.shutDk (d := { d with down := true }) rfl rfl rfl rfl rfl)
theorem dcrash_nil (hi : (dkI D ra rb d).ok w) (hok : d.ok) (hws : d.ws.length ≤ 1099511627776) (k : ∀ w', Hp (dkI D ra rb d).fp w w' [dkI D ra none { d.settle (fun _ => false) with down := true }] → K (.tuple #[]) w') : Ret Try.prog 44 #[.pointer (some ⟨D, 0, none⟩), .nilFunc] w K := by
  have H := Hp.start (fun _ => False) w
  apply e44
  unfold c44
  repeat (first | ((first | refine val_box H ?_ | refine val_alloc H (fun w => by simp [go_sem]; rfl) ?_); clear H; intro B w hB hp H; clear hB hp; try simp only [List.set_cons_zero, List.set_cons_succ, List.setIfInBounds_toArray, List.set_set, Value.cells] at H) | (first | refine val_ld H (fun w => by simp [go_sem]) (by with_reducible repeat (first | exact At.zero | apply At.succ)) (by rfl) ?_ | refine rd_ld H (fun w => by simp [go_sem]) (by with_reducible repeat (first | exact At.zero | apply At.succ)) (by rfl) ?_ | refine val_ldB H (by with_reducible repeat (first | exact At.zero | apply At.succ)) (aggT (by kernel_rfl)) ?_ | refine rd_ldB H (by with_reducible repeat (first | exact At.zero | apply At.succ)) (aggT (by kernel_rfl)) ?_) | ((first | refine unt_st H (by with_reducible repeat (first | exact At.zero | apply At.succ)) (fun w => by simp [go_sem]) (by rfl) (by rfl) ?_ | refine unt_stB H (by with_reducible repeat (first | exact At.zero | apply At.succ)) (aggT (by kernel_rfl)) (by rfl) (by rfl) ?_); clear H; intro w ho H; clear ho; try simp only [List.set_cons_zero, List.set_cons_succ, List.setIfInBounds_toArray, List.set_set, Value.cells] at H) | (refine val_at_bs ?_; ((refine val_run (by simp [go_sem]; (try simp (disch := omega) only [w_i64, w_u64, w_u32, w_u16, w_u8, w_i32]); rfl) ?_); refine onOk_bs H ?_; clear H; intro B w hB hp H; clear hB hp; try simp only [List.set_cons_zero, List.set_cons_succ, List.setIfInBounds_toArray, List.set_set, Value.cells] at H)) | (first | (refine val_run (by simp [bin, nilc, go_sem]; (try simp (disch := omega) only [w_i64, w_u64, w_u32, w_u16, w_u8, w_i32]); rfl) ?_; refine onOk_in ?_) | (refine pu_run (fun w => by simp [bin, nilc, go_sem]; (try simp (disch := omega) only [w_i64, w_u64, w_u32, w_u16, w_u8, w_i32]); rfl) ?_; refine puR_in ?_) | (refine tk_run (fun w => by simp [bin, nilc, go_sem]; (try simp (disch := omega) only [w_i64, w_u64, w_u32, w_u16, w_u8, w_i32]); rfl) ?_; refine puR_in ?_)) | (refine tk_at_in ?_) | (refine ph_at ?_) | (refine ph_pure (Only.refl _ _) ?_) | (refine ph_k H (by with_reducible repeat (first | exact At.zero | apply At.succ)) ?_) | (refine tk_k (fun w => by simp [go_sem]) (by rfl) ?_) | (refine ph_pure H.only ?_) | (refine ph_pure (hpT.trans H.only (fun _ _ k => k)) ?_) | (refine tk_pld H (fun w => by simp [go_sem]) (by with_reducible repeat (first | exact At.zero | apply At.succ)) (by rfl) ?_) | (refine tk_pldB H (by with_reducible repeat (first | exact At.zero | apply At.succ)) (aggT (by kernel_rfl)) ?_) | (refine gd_true_in ?_) | (refine gd_false_in ?_) | (refine gd_true_in' ?_) | (refine gd_false_in' ?_))
  refine settle_ret hi hok hws (keep := fun _ => false) (fun i W _ _ K kk => dyn_func (e90 (kk W (Only.refl _ _)))) fun w' h => ?_
  exact setdown h k
theorem dcrash_ret (hi : (dkI D ra rb d).ok w) (hok : d.ok) (hws : d.ws.length ≤ 1099511627776) {fn : FuncId} {cp tp : Array Value} {keep : Nat → Bool}
    (hf : ∀ (i : Nat) (W : World), i < 1099511627776 → Only (dkI D ra rb d).fp w W → ∀ K : Value → World → Prop, (∀ W', Pure W W' → K (.bool (keep i)) W') → dyn Try.prog (.func (.func fn) cp tp) [.int .i64 i] W K)
    (k : ∀ w', Hp (dkI D ra rb d).fp w w' [dkI D ra none { d.settle keep with down := true }] → K (.tuple #[]) w') : Ret Try.prog 44 #[.pointer (some ⟨D, 0, none⟩), .func (.func fn) cp tp] w K := by
  have H := Hp.start (fun _ => False) w
  apply e44
  unfold c44
  repeat (first | ((first | refine val_box H ?_ | refine val_alloc H (fun w => by simp [go_sem]; rfl) ?_); clear H; intro B w hB hp H; clear hB hp; try simp only [List.set_cons_zero, List.set_cons_succ, List.setIfInBounds_toArray, List.set_set, Value.cells] at H) | (first | refine val_ld H (fun w => by simp [go_sem]) (by with_reducible repeat (first | exact At.zero | apply At.succ)) (by rfl) ?_ | refine rd_ld H (fun w => by simp [go_sem]) (by with_reducible repeat (first | exact At.zero | apply At.succ)) (by rfl) ?_ | refine val_ldB H (by with_reducible repeat (first | exact At.zero | apply At.succ)) (aggT (by kernel_rfl)) ?_ | refine rd_ldB H (by with_reducible repeat (first | exact At.zero | apply At.succ)) (aggT (by kernel_rfl)) ?_) | ((first | refine unt_st H (by with_reducible repeat (first | exact At.zero | apply At.succ)) (fun w => by simp [go_sem]) (by rfl) (by rfl) ?_ | refine unt_stB H (by with_reducible repeat (first | exact At.zero | apply At.succ)) (aggT (by kernel_rfl)) (by rfl) (by rfl) ?_); clear H; intro w ho H; clear ho; try simp only [List.set_cons_zero, List.set_cons_succ, List.setIfInBounds_toArray, List.set_set, Value.cells] at H) | (refine val_at_bs ?_; ((refine val_run (by simp [go_sem]; (try simp (disch := omega) only [w_i64, w_u64, w_u32, w_u16, w_u8, w_i32]); rfl) ?_); refine onOk_bs H ?_; clear H; intro B w hB hp H; clear hB hp; try simp only [List.set_cons_zero, List.set_cons_succ, List.setIfInBounds_toArray, List.set_set, Value.cells] at H)) | (first | (refine val_run (by simp [bin, nilc, go_sem]; (try simp (disch := omega) only [w_i64, w_u64, w_u32, w_u16, w_u8, w_i32]); rfl) ?_; refine onOk_in ?_) | (refine pu_run (fun w => by simp [bin, nilc, go_sem]; (try simp (disch := omega) only [w_i64, w_u64, w_u32, w_u16, w_u8, w_i32]); rfl) ?_; refine puR_in ?_) | (refine tk_run (fun w => by simp [bin, nilc, go_sem]; (try simp (disch := omega) only [w_i64, w_u64, w_u32, w_u16, w_u8, w_i32]); rfl) ?_; refine puR_in ?_)) | (refine tk_at_in ?_) | (refine ph_at ?_) | (refine ph_pure (Only.refl _ _) ?_) | (refine ph_k H (by with_reducible repeat (first | exact At.zero | apply At.succ)) ?_) | (refine tk_k (fun w => by simp [go_sem]) (by rfl) ?_) | (refine ph_pure H.only ?_) | (refine ph_pure (hpT.trans H.only (fun _ _ k => k)) ?_) | (refine tk_pld H (fun w => by simp [go_sem]) (by with_reducible repeat (first | exact At.zero | apply At.succ)) (by rfl) ?_) | (refine tk_pldB H (by with_reducible repeat (first | exact At.zero | apply At.succ)) (aggT (by kernel_rfl)) ?_) | (refine gd_true_in ?_) | (refine gd_false_in ?_) | (refine gd_true_in' ?_) | (refine gd_false_in' ?_))
  refine settle_ret hi hok hws hf fun w' h => ?_
  exact setdown h k
end
end Go.Proofs.Ytchmcjimnliodaa
end
section
set_option linter.unusedSimpArgs false
set_option linter.unusedVariables false
/- What the functions of disk give: Copy, Read. -/
namespace Go.Proofs.Ytchmcjimnliodaa
open Go Go.RowKit
set_option maxRecDepth 10000
set_option linter.unusedSimpArgs false
set_option linter.unusedVariables false

section
variable {S : Nat → Prop} {w0 w : World} {L : List It} {j D : Nat} {ra rb : Option Nat} {d : Dk} {K : Value → World → Prop}
theorem secsC_length {l : List (List UInt8)} (h : ∀ x ∈ l, x.length = 64) : (secsC l).length = l.length * 64 := flat_len l (fun x hx => by rw [ub_length, h x hx])
theorem waitsC_length {l : List (Nat × List UInt8)} (h : ∀ x ∈ l, x.2.length = 64) : (waitsC l).length = l.length * 65 := flat_len l (fun x hx => by rw [waitC_length, h x hx])
theorem Lies.none_nil {xs : List Value} (h : Lies w none xs) : xs = [] := by
  cases xs with
  | nil => rfl
  | cons x l => obtain ⟨_, _, h, _⟩ := h 0 _ rfl; cases h
/-- slices.Clone of sectors. -/
theorem clonesec_ret {w : World} {l : List (List UInt8)} {a : Option Addr} {n cap : Nat} (hn : n = l.length) (h64 : ∀ x ∈ l, x.length = 64) (hlen : l.length ≤ 4096) (hl : Lies w a (secsC l)) (k : ∀ (a' : Option Addr) (cap' : Nat) (w' : World), Hp (fun _ => False) w w' [.row 150 64 a' l.length cap' (secsC l)] → K (.slice a' l.length cap') w') :
    Ret Try.prog 82 #[.slice a n cap] w K := by
  subst hn
  have H := Hp.start (fun _ => False) w
  apply e82
  unfold c82
  cases a with
  | none =>
    have h0 := congrArg List.length hl.none_nil
    rw [secsC_length h64] at h0
    obtain rfl : l = [] := List.eq_nil_of_length_eq_zero (by simp at h0; omega)
    repeat (first | ((first | refine val_box H ?_ | refine val_alloc H (fun w => by simp [go_sem]; rfl) ?_); clear H; intro B w hB hp H; clear hB hp; try simp only [List.set_cons_zero, List.set_cons_succ, List.setIfInBounds_toArray, List.set_set, Value.cells] at H) | (first | refine val_ld H (fun w => by simp [go_sem]) (by with_reducible repeat (first | exact At.zero | apply At.succ)) (by rfl) ?_ | refine rd_ld H (fun w => by simp [go_sem]) (by with_reducible repeat (first | exact At.zero | apply At.succ)) (by rfl) ?_ | refine val_ldB H (by with_reducible repeat (first | exact At.zero | apply At.succ)) (aggT (by kernel_rfl)) ?_ | refine rd_ldB H (by with_reducible repeat (first | exact At.zero | apply At.succ)) (aggT (by kernel_rfl)) ?_) | ((first | refine unt_st H (by with_reducible repeat (first | exact At.zero | apply At.succ)) (fun w => by simp [go_sem]) (by rfl) (by rfl) ?_ | refine unt_stB H (by with_reducible repeat (first | exact At.zero | apply At.succ)) (aggT (by kernel_rfl)) (by rfl) (by rfl) ?_); clear H; intro w ho H; clear ho; try simp only [List.set_cons_zero, List.set_cons_succ, List.setIfInBounds_toArray, List.set_set, Value.cells] at H) | (refine val_at_bs ?_; ((refine val_run (by simp [go_sem]; (try simp (disch := omega) only [w_i64, w_u64, w_u32, w_u16, w_u8, w_i32]); rfl) ?_); refine onOk_bs H ?_; clear H; intro B w hB hp H; clear hB hp; try simp only [List.set_cons_zero, List.set_cons_succ, List.setIfInBounds_toArray, List.set_set, Value.cells] at H)) | (first | (refine val_run (by simp [bin, nilc, go_sem]; (try simp (disch := omega) only [w_i64, w_u64, w_u32, w_u16, w_u8, w_i32]); rfl) ?_; refine onOk_in ?_) | (refine pu_run (fun w => by simp [bin, nilc, go_sem]; (try simp (disch := omega) only [w_i64, w_u64, w_u32, w_u16, w_u8, w_i32]); rfl) ?_; refine puR_in ?_) | (refine tk_run (fun w => by simp [bin, nilc, go_sem]; (try simp (disch := omega) only [w_i64, w_u64, w_u32, w_u16, w_u8, w_i32]); rfl) ?_; refine puR_in ?_)) | (refine tk_at_in ?_) | (refine ph_at ?_) | (refine ph_pure (Only.refl _ _) ?_) | (refine ph_k H (by with_reducible repeat (first | exact At.zero | apply At.succ)) ?_) | (refine tk_k (fun w => by simp [go_sem]) (by rfl) ?_) | (refine ph_pure H.only ?_) | (refine ph_pure (hpT.trans H.only (fun _ _ k => k)) ?_) | (refine tk_pld H (fun w => by simp [go_sem]) (by with_reducible repeat (first | exact At.zero | apply At.succ)) (by rfl) ?_) | (refine tk_pldB H (by with_reducible repeat (first | exact At.zero | apply At.succ)) (aggT (by kernel_rfl)) ?_) | (refine gd_true_in ?_) | (refine gd_false_in ?_) | (refine gd_true_in' ?_) | (refine gd_false_in' ?_))
    exact k none 0 w (H.nil _ _)
  | some ad =>
    repeat (first | ((first | refine val_box H ?_ | refine val_alloc H (fun w => by simp [go_sem]; rfl) ?_); clear H; intro B w hB hp H; clear hB hp; try simp only [List.set_cons_zero, List.set_cons_succ, List.setIfInBounds_toArray, List.set_set, Value.cells] at H) | (first | refine val_ld H (fun w => by simp [go_sem]) (by with_reducible repeat (first | exact At.zero | apply At.succ)) (by rfl) ?_ | refine rd_ld H (fun w => by simp [go_sem]) (by with_reducible repeat (first | exact At.zero | apply At.succ)) (by rfl) ?_ | refine val_ldB H (by with_reducible repeat (first | exact At.zero | apply At.succ)) (aggT (by kernel_rfl)) ?_ | refine rd_ldB H (by with_reducible repeat (first | exact At.zero | apply At.succ)) (aggT (by kernel_rfl)) ?_) | ((first | refine unt_st H (by with_reducible repeat (first | exact At.zero | apply At.succ)) (fun w => by simp [go_sem]) (by rfl) (by rfl) ?_ | refine unt_stB H (by with_reducible repeat (first | exact At.zero | apply At.succ)) (aggT (by kernel_rfl)) (by rfl) (by rfl) ?_); clear H; intro w ho H; clear ho; try simp only [List.set_cons_zero, List.set_cons_succ, List.setIfInBounds_toArray, List.set_set, Value.cells] at H) | (refine val_at_bs ?_; ((refine val_run (by simp [go_sem]; (try simp (disch := omega) only [w_i64, w_u64, w_u32, w_u16, w_u8, w_i32]); rfl) ?_); refine onOk_bs H ?_; clear H; intro B w hB hp H; clear hB hp; try simp only [List.set_cons_zero, List.set_cons_succ, List.setIfInBounds_toArray, List.set_set, Value.cells] at H)) | (first | (refine val_run (by simp [bin, nilc, go_sem]; (try simp (disch := omega) only [w_i64, w_u64, w_u32, w_u16, w_u8, w_i32]); rfl) ?_; refine onOk_in ?_) | (refine pu_run (fun w => by simp [bin, nilc, go_sem]; (try simp (disch := omega) only [w_i64, w_u64, w_u32, w_u16, w_u8, w_i32]); rfl) ?_; refine puR_in ?_) | (refine tk_run (fun w => by simp [bin, nilc, go_sem]; (try simp (disch := omega) only [w_i64, w_u64, w_u32, w_u16, w_u8, w_i32]); rfl) ?_; refine puR_in ?_)) | (refine tk_at_in ?_) | (refine ph_at ?_) | (refine ph_pure (Only.refl _ _) ?_) | (refine ph_k H (by with_reducible repeat (first | exact At.zero | apply At.succ)) ?_) | (refine tk_k (fun w => by simp [go_sem]) (by rfl) ?_) | (refine ph_pure H.only ?_) | (refine ph_pure (hpT.trans H.only (fun _ _ k => k)) ?_) | (refine tk_pld H (fun w => by simp [go_sem]) (by with_reducible repeat (first | exact At.zero | apply At.succ)) (by rfl) ?_) | (refine tk_pldB H (by with_reducible repeat (first | exact At.zero | apply At.succ)) (aggT (by kernel_rfl)) ?_) | (refine gd_true_in ?_) | (refine gd_false_in ?_) | (refine gd_true_in' ?_) | (refine gd_false_in' ?_))
    replace H := H.asRow (by with_reducible repeat (first | exact At.zero | apply At.succ)) 64 0 rfl (Nat.zero_le _)
    simp only [List.set_cons_zero, List.set_cons_succ, List.setIfInBounds_toArray, List.set_set, Value.cells] at H
    have hl2 := hl.pure H.only
    (refine val_app H el139 (by with_reducible repeat (first | exact At.zero | apply At.succ)) hl2 (secsC_length h64) (secsC_one _) (by unfold maxLen; omega) (by omega) ?_; clear H; intro a1 cap1 w ho hat H; clear ho hat; try simp only [List.set_cons_zero, List.set_cons_succ, List.setIfInBounds_toArray, List.set_set, Value.cells] at H)
    rw [Nat.zero_add] at H ⊢
    simp only [List.nil_append] at H
    exact k _ _ _ H
/-- slices.Clone of writings. -/
theorem clonewait_ret {w : World} {l : List (Nat × List UInt8)} {a : Option Addr} {n cap : Nat} (hn : n = l.length) (h64 : ∀ x ∈ l, x.2.length = 64) (hlen : l.length ≤ 1099511627776) (hl : Lies w a (waitsC l)) (k : ∀ (a' : Option Addr) (cap' : Nat) (w' : World), Hp (fun _ => False) w w' [.row 153 65 a' l.length cap' (waitsC l)] → K (.slice a' l.length cap') w') :
    Ret Try.prog 83 #[.slice a n cap] w K := by
  subst hn
  have H := Hp.start (fun _ => False) w
  apply e83
  unfold c83
  cases a with
  | none =>
    have h0 := congrArg List.length hl.none_nil
    rw [waitsC_length h64] at h0
    obtain rfl : l = [] := List.eq_nil_of_length_eq_zero (by simp at h0; omega)
    repeat (first | ((first | refine val_box H ?_ | refine val_alloc H (fun w => by simp [go_sem]; rfl) ?_); clear H; intro B w hB hp H; clear hB hp; try simp only [List.set_cons_zero, List.set_cons_succ, List.setIfInBounds_toArray, List.set_set, Value.cells] at H) | (first | refine val_ld H (fun w => by simp [go_sem]) (by with_reducible repeat (first | exact At.zero | apply At.succ)) (by rfl) ?_ | refine rd_ld H (fun w => by simp [go_sem]) (by with_reducible repeat (first | exact At.zero | apply At.succ)) (by rfl) ?_ | refine val_ldB H (by with_reducible repeat (first | exact At.zero | apply At.succ)) (aggT (by kernel_rfl)) ?_ | refine rd_ldB H (by with_reducible repeat (first | exact At.zero | apply At.succ)) (aggT (by kernel_rfl)) ?_) | ((first | refine unt_st H (by with_reducible repeat (first | exact At.zero | apply At.succ)) (fun w => by simp [go_sem]) (by rfl) (by rfl) ?_ | refine unt_stB H (by with_reducible repeat (first | exact At.zero | apply At.succ)) (aggT (by kernel_rfl)) (by rfl) (by rfl) ?_); clear H; intro w ho H; clear ho; try simp only [List.set_cons_zero, List.set_cons_succ, List.setIfInBounds_toArray, List.set_set, Value.cells] at H) | (refine val_at_bs ?_; ((refine val_run (by simp [go_sem]; (try simp (disch := omega) only [w_i64, w_u64, w_u32, w_u16, w_u8, w_i32]); rfl) ?_); refine onOk_bs H ?_; clear H; intro B w hB hp H; clear hB hp; try simp only [List.set_cons_zero, List.set_cons_succ, List.setIfInBounds_toArray, List.set_set, Value.cells] at H)) | (first | (refine val_run (by simp [bin, nilc, go_sem]; (try simp (disch := omega) only [w_i64, w_u64, w_u32, w_u16, w_u8, w_i32]); rfl) ?_; refine onOk_in ?_) | (refine pu_run (fun w => by simp [bin, nilc, go_sem]; (try simp (disch := omega) only [w_i64, w_u64, w_u32, w_u16, w_u8, w_i32]); rfl) ?_; refine puR_in ?_) | (refine tk_run (fun w => by simp [bin, nilc, go_sem]; (try simp (disch := omega) only [w_i64, w_u64, w_u32, w_u16, w_u8, w_i32]); rfl) ?_; refine puR_in ?_)) | (refine tk_at_in ?_) | (refine ph_at ?_) | (refine ph_pure (Only.refl _ _) ?_) | (refine ph_k H (by with_reducible repeat (first | exact At.zero | apply At.succ)) ?_) | (refine tk_k (fun w => by simp [go_sem]) (by rfl) ?_) | (refine ph_pure H.only ?_) | (refine ph_pure (hpT.trans H.only (fun _ _ k => k)) ?_) | (refine tk_pld H (fun w => by simp [go_sem]) (by with_reducible repeat (first | exact At.zero | apply At.succ)) (by rfl) ?_) | (refine tk_pldB H (by with_reducible repeat (first | exact At.zero | apply At.succ)) (aggT (by kernel_rfl)) ?_) | (refine gd_true_in ?_) | (refine gd_false_in ?_) | (refine gd_true_in' ?_) | (refine gd_false_in' ?_))
    exact k none 0 w (H.nil _ _)
  | some ad =>
    repeat (first | ((first | refine val_box H ?_ | refine val_alloc H (fun w => by simp [go_sem]; rfl) ?_); clear H; intro B w hB hp H; clear hB hp; try simp only [List.set_cons_zero, List.set_cons_succ, List.setIfInBounds_toArray, List.set_set, Value.cells] at H) | (first | refine val_ld H (fun w => by simp [go_sem]) (by with_reducible repeat (first | exact At.zero | apply At.succ)) (by rfl) ?_ | refine rd_ld H (fun w => by simp [go_sem]) (by with_reducible repeat (first | exact At.zero | apply At.succ)) (by rfl) ?_ | refine val_ldB H (by with_reducible repeat (first | exact At.zero | apply At.succ)) (aggT (by kernel_rfl)) ?_ | refine rd_ldB H (by with_reducible repeat (first | exact At.zero | apply At.succ)) (aggT (by kernel_rfl)) ?_) | ((first | refine unt_st H (by with_reducible repeat (first | exact At.zero | apply At.succ)) (fun w => by simp [go_sem]) (by rfl) (by rfl) ?_ | refine unt_stB H (by with_reducible repeat (first | exact At.zero | apply At.succ)) (aggT (by kernel_rfl)) (by rfl) (by rfl) ?_); clear H; intro w ho H; clear ho; try simp only [List.set_cons_zero, List.set_cons_succ, List.setIfInBounds_toArray, List.set_set, Value.cells] at H) | (refine val_at_bs ?_; ((refine val_run (by simp [go_sem]; (try simp (disch := omega) only [w_i64, w_u64, w_u32, w_u16, w_u8, w_i32]); rfl) ?_); refine onOk_bs H ?_; clear H; intro B w hB hp H; clear hB hp; try simp only [List.set_cons_zero, List.set_cons_succ, List.setIfInBounds_toArray, List.set_set, Value.cells] at H)) | (first | (refine val_run (by simp [bin, nilc, go_sem]; (try simp (disch := omega) only [w_i64, w_u64, w_u32, w_u16, w_u8, w_i32]); rfl) ?_; refine onOk_in ?_) | (refine pu_run (fun w => by simp [bin, nilc, go_sem]; (try simp (disch := omega) only [w_i64, w_u64, w_u32, w_u16, w_u8, w_i32]); rfl) ?_; refine puR_in ?_) | (refine tk_run (fun w => by simp [bin, nilc, go_sem]; (try simp (disch := omega) only [w_i64, w_u64, w_u32, w_u16, w_u8, w_i32]); rfl) ?_; refine puR_in ?_)) | (refine tk_at_in ?_) | (refine ph_at ?_) | (refine ph_pure (Only.refl _ _) ?_) | (refine ph_k H (by with_reducible repeat (first | exact At.zero | apply At.succ)) ?_) | (refine tk_k (fun w => by simp [go_sem]) (by rfl) ?_) | (refine ph_pure H.only ?_) | (refine ph_pure (hpT.trans H.only (fun _ _ k => k)) ?_) | (refine tk_pld H (fun w => by simp [go_sem]) (by with_reducible repeat (first | exact At.zero | apply At.succ)) (by rfl) ?_) | (refine tk_pldB H (by with_reducible repeat (first | exact At.zero | apply At.succ)) (aggT (by kernel_rfl)) ?_) | (refine gd_true_in ?_) | (refine gd_false_in ?_) | (refine gd_true_in' ?_) | (refine gd_false_in' ?_))
    replace H := H.asRow (by with_reducible repeat (first | exact At.zero | apply At.succ)) 65 0 rfl (Nat.zero_le _)
    simp only [List.set_cons_zero, List.set_cons_succ, List.setIfInBounds_toArray, List.set_set, Value.cells] at H
    have hl2 := hl.pure H.only
    (refine val_app H el140 (by with_reducible repeat (first | exact At.zero | apply At.succ)) hl2 (waitsC_length h64) (waitsC_one _) (by unfold maxLen; omega) (by omega) ?_; clear H; intro a1 cap1 w ho hat H; clear ho hat; try simp only [List.set_cons_zero, List.set_cons_succ, List.setIfInBounds_toArray, List.set_set, Value.cells] at H)
    rw [Nat.zero_add] at H ⊢
    simp only [List.nil_append] at H
    exact k _ _ _ H
/-- A call that makes new things alone. -/
theorem Hp.news {w' : World} {N : List It} (H : Hp S w0 w L) (H2 : Hp (fun _ => False) w w' N) : Hp S w0 w' (N ++ L) := by
  refine ⟨H.only.trans H2.only (fun k _ h => h.elim), fun x hx => ?_, List.pairwise_append.2 ⟨H2.apart, H.apart, fun x hx y hy k hk hk' => ?_⟩, fun x hx k hk => ?_⟩
  · rcases List.mem_append.1 hx with hx | hx
    · exact H2.ok x hx
    · exact It.only (H.ok x hx) H2.only (fun _ _ h => h)
  · have := (H2.own x hx k hk).resolve_right id
    have := y.lt (H.ok y hy) hk'
    omega
  · rcases List.mem_append.1 hx with hx | hx
    · exact .inl (Nat.le_trans H.only.size ((H2.own x hx k hk).resolve_right id))
    · exact H.own x hx k hk
set_option maxHeartbeats 1000000 in
theorem dcopy_ret (H : Hp S w0 w L) (hk : At L j (dkI D ra rb d)) (hok : d.ok) (hws : d.ws.length ≤ 1099511627776) (k : ∀ D' ra' rb' w', Hp S w0 w' (dkI D' ra' rb' d :: L) → K (.pointer (some ⟨D', 0, none⟩)) w') : Ret Try.prog 33 #[.pointer (some ⟨D, 0, none⟩)] w K := by
  have HH := H
  obtain ⟨a1, ca, b1, cb, rfl, rfl, H⟩ := H.openDk hk
  apply e33
  unfold c33
  repeat (first | ((first | refine val_box H ?_ | refine val_alloc H (fun w => by simp [go_sem]; rfl) ?_); clear H; intro B w hB hp H; clear hB hp; try simp only [List.set_cons_zero, List.set_cons_succ, List.setIfInBounds_toArray, List.set_set, Value.cells] at H) | (first | refine val_ld H (fun w => by simp [go_sem]) (by with_reducible repeat (first | exact At.zero | apply At.succ)) (by rfl) ?_ | refine rd_ld H (fun w => by simp [go_sem]) (by with_reducible repeat (first | exact At.zero | apply At.succ)) (by rfl) ?_ | refine val_ldB H (by with_reducible repeat (first | exact At.zero | apply At.succ)) (aggT (by kernel_rfl)) ?_ | refine rd_ldB H (by with_reducible repeat (first | exact At.zero | apply At.succ)) (aggT (by kernel_rfl)) ?_) | ((first | refine unt_st H (by with_reducible repeat (first | exact At.zero | apply At.succ)) (fun w => by simp [go_sem]) (by rfl) (by rfl) ?_ | refine unt_stB H (by with_reducible repeat (first | exact At.zero | apply At.succ)) (aggT (by kernel_rfl)) (by rfl) (by rfl) ?_); clear H; intro w ho H; clear ho; try simp only [List.set_cons_zero, List.set_cons_succ, List.setIfInBounds_toArray, List.set_set, Value.cells] at H) | (refine val_at_bs ?_; ((refine val_run (by simp [go_sem]; (try simp (disch := omega) only [w_i64, w_u64, w_u32, w_u16, w_u8, w_i32]); rfl) ?_); refine onOk_bs H ?_; clear H; intro B w hB hp H; clear hB hp; try simp only [List.set_cons_zero, List.set_cons_succ, List.setIfInBounds_toArray, List.set_set, Value.cells] at H)) | (first | (refine val_run (by simp [bin, nilc, go_sem]; (try simp (disch := omega) only [w_i64, w_u64, w_u32, w_u16, w_u8, w_i32]); rfl) ?_; refine onOk_in ?_) | (refine pu_run (fun w => by simp [bin, nilc, go_sem]; (try simp (disch := omega) only [w_i64, w_u64, w_u32, w_u16, w_u8, w_i32]); rfl) ?_; refine puR_in ?_) | (refine tk_run (fun w => by simp [bin, nilc, go_sem]; (try simp (disch := omega) only [w_i64, w_u64, w_u32, w_u16, w_u8, w_i32]); rfl) ?_; refine puR_in ?_)) | (refine tk_at_in ?_) | (refine ph_at ?_) | (refine ph_pure (Only.refl _ _) ?_) | (refine ph_k H (by with_reducible repeat (first | exact At.zero | apply At.succ)) ?_) | (refine tk_k (fun w => by simp [go_sem]) (by rfl) ?_) | (refine ph_pure H.only ?_) | (refine ph_pure (hpT.trans H.only (fun _ _ k => k)) ?_) | (refine tk_pld H (fun w => by simp [go_sem]) (by with_reducible repeat (first | exact At.zero | apply At.succ)) (by rfl) ?_) | (refine tk_pldB H (by with_reducible repeat (first | exact At.zero | apply At.succ)) (aggT (by kernel_rfl)) ?_) | (refine gd_true_in ?_) | (refine gd_false_in ?_) | (refine gd_true_in' ?_) | (refine gd_false_in' ?_))
  refine drw_u H 2 fun w1 hp H => ?_
  replace HH := HH.pure hp
  clear hp
  repeat (first | ((first | refine val_box H ?_ | refine val_alloc H (fun w => by simp [go_sem]; rfl) ?_); clear H; intro B w hB hp H; clear hB hp; try simp only [List.set_cons_zero, List.set_cons_succ, List.setIfInBounds_toArray, List.set_set, Value.cells] at H) | (first | refine val_ld H (fun w => by simp [go_sem]) (by with_reducible repeat (first | exact At.zero | apply At.succ)) (by rfl) ?_ | refine rd_ld H (fun w => by simp [go_sem]) (by with_reducible repeat (first | exact At.zero | apply At.succ)) (by rfl) ?_ | refine val_ldB H (by with_reducible repeat (first | exact At.zero | apply At.succ)) (aggT (by kernel_rfl)) ?_ | refine rd_ldB H (by with_reducible repeat (first | exact At.zero | apply At.succ)) (aggT (by kernel_rfl)) ?_) | ((first | refine unt_st H (by with_reducible repeat (first | exact At.zero | apply At.succ)) (fun w => by simp [go_sem]) (by rfl) (by rfl) ?_ | refine unt_stB H (by with_reducible repeat (first | exact At.zero | apply At.succ)) (aggT (by kernel_rfl)) (by rfl) (by rfl) ?_); clear H; intro w ho H; clear ho; try simp only [List.set_cons_zero, List.set_cons_succ, List.setIfInBounds_toArray, List.set_set, Value.cells] at H) | (refine val_at_bs ?_; ((refine val_run (by simp [go_sem]; (try simp (disch := omega) only [w_i64, w_u64, w_u32, w_u16, w_u8, w_i32]); rfl) ?_); refine onOk_bs H ?_; clear H; intro B w hB hp H; clear hB hp; try simp only [List.set_cons_zero, List.set_cons_succ, List.setIfInBounds_toArray, List.set_set, Value.cells] at H)) | (first | (refine val_run (by simp [bin, nilc, go_sem]; (try simp (disch := omega) only [w_i64, w_u64, w_u32, w_u16, w_u8, w_i32]); rfl) ?_; refine onOk_in ?_) | (refine pu_run (fun w => by simp [bin, nilc, go_sem]; (try simp (disch := omega) only [w_i64, w_u64, w_u32, w_u16, w_u8, w_i32]); rfl) ?_; refine puR_in ?_) | (refine tk_run (fun w => by simp [bin, nilc, go_sem]; (try simp (disch := omega) only [w_i64, w_u64, w_u32, w_u16, w_u8, w_i32]); rfl) ?_; refine puR_in ?_)) | (refine tk_at_in ?_) | (refine ph_at ?_) | (refine ph_pure (Only.refl _ _) ?_) | (refine ph_k H (by with_reducible repeat (first | exact At.zero | apply At.succ)) ?_) | (refine tk_k (fun w => by simp [go_sem]) (by rfl) ?_) | (refine ph_pure H.only ?_) | (refine ph_pure (hpT.trans H.only (fun _ _ k => k)) ?_) | (refine tk_pld H (fun w => by simp [go_sem]) (by with_reducible repeat (first | exact At.zero | apply At.succ)) (by rfl) ?_) | (refine tk_pldB H (by with_reducible repeat (first | exact At.zero | apply At.succ)) (aggT (by kernel_rfl)) ?_) | (refine gd_true_in ?_) | (refine gd_false_in ?_) | (refine gd_true_in' ?_) | (refine gd_false_in' ?_) | (refine tk_uld H (by decide) (fun w => by simp [go_sem]) (by with_reducible repeat (first | exact At.zero | apply At.succ)) (by rfl) ?_) | (refine tk_uldB H (by decide) (by with_reducible repeat (first | exact At.zero | apply At.succ)) (aggT (by kernel_rfl)) ?_) | (refine ph_v (by decide) ?_))
  have hla := (H.row (xs := secsC d.l) (by with_reducible repeat (first | exact At.zero | apply At.succ))).lies
  have hlb := (H.row (xs := waitsC d.ws) (by with_reducible repeat (first | exact At.zero | apply At.succ))).lies
  clear H
  refine clonesec_ret rfl hok.sec hok.len hla fun a2 c2 w2 h2 => ?_
  refine ph_u h2.only ?_
  refine clonewait_ret rfl (fun p hp => (hok.ws p hp).2) hws (hlb.pure h2.only) fun a3 c3 w3 h3 => ?_
  have h23 := h2.news h3
  simp only [List.cons_append, List.nil_append] at h23
  refine ph_u h23.only ?_
  have H := HH.news h23
  simp only [List.cons_append, List.nil_append] at H
  repeat (first | ((first | refine val_box H ?_ | refine val_alloc H (fun w => by simp [go_sem]; rfl) ?_); clear H; intro B w hB hp H; clear hB hp; try simp only [List.set_cons_zero, List.set_cons_succ, List.setIfInBounds_toArray, List.set_set, Value.cells] at H) | (first | refine val_ld H (fun w => by simp [go_sem]) (by with_reducible repeat (first | exact At.zero | apply At.succ)) (by rfl) ?_ | refine rd_ld H (fun w => by simp [go_sem]) (by with_reducible repeat (first | exact At.zero | apply At.succ)) (by rfl) ?_ | refine val_ldB H (by with_reducible repeat (first | exact At.zero | apply At.succ)) (aggT (by kernel_rfl)) ?_ | refine rd_ldB H (by with_reducible repeat (first | exact At.zero | apply At.succ)) (aggT (by kernel_rfl)) ?_) | ((first | refine unt_st H (by with_reducible repeat (first | exact At.zero | apply At.succ)) (fun w => by simp [go_sem]) (by rfl) (by rfl) ?_ | refine unt_stB H (by with_reducible repeat (first | exact At.zero | apply At.succ)) (aggT (by kernel_rfl)) (by rfl) (by rfl) ?_); clear H; intro w ho H; clear ho; try simp only [List.set_cons_zero, List.set_cons_succ, List.setIfInBounds_toArray, List.set_set, Value.cells] at H) | (refine val_at_bs ?_; ((refine val_run (by simp [go_sem]; (try simp (disch := omega) only [w_i64, w_u64, w_u32, w_u16, w_u8, w_i32]); rfl) ?_); refine onOk_bs H ?_; clear H; intro B w hB hp H; clear hB hp; try simp only [List.set_cons_zero, List.set_cons_succ, List.setIfInBounds_toArray, List.set_set, Value.cells] at H)) | (first | (refine val_run (by simp [bin, nilc, go_sem]; (try simp (disch := omega) only [w_i64, w_u64, w_u32, w_u16, w_u8, w_i32]); rfl) ?_; refine onOk_in ?_) | (refine pu_run (fun w => by simp [bin, nilc, go_sem]; (try simp (disch := omega) only [w_i64, w_u64, w_u32, w_u16, w_u8, w_i32]); rfl) ?_; refine puR_in ?_) | (refine tk_run (fun w => by simp [bin, nilc, go_sem]; (try simp (disch := omega) only [w_i64, w_u64, w_u32, w_u16, w_u8, w_i32]); rfl) ?_; refine puR_in ?_)) | (refine tk_at_in ?_) | (refine ph_at ?_) | (refine ph_pure (Only.refl _ _) ?_) | (refine ph_k H (by with_reducible repeat (first | exact At.zero | apply At.succ)) ?_) | (refine tk_k (fun w => by simp [go_sem]) (by rfl) ?_) | (refine ph_pure H.only ?_) | (refine ph_pure (hpT.trans H.only (fun _ _ k => k)) ?_) | (refine tk_pld H (fun w => by simp [go_sem]) (by with_reducible repeat (first | exact At.zero | apply At.succ)) (by rfl) ?_) | (refine tk_pldB H (by with_reducible repeat (first | exact At.zero | apply At.succ)) (aggT (by kernel_rfl)) ?_) | (refine gd_true_in ?_) | (refine gd_false_in ?_) | (refine gd_true_in' ?_) | (refine gd_false_in' ?_) | (refine tk_uld H (by decide) (fun w => by simp [go_sem]) (by with_reducible repeat (first | exact At.zero | apply At.succ)) (by rfl) ?_) | (refine tk_uldB H (by decide) (by with_reducible repeat (first | exact At.zero | apply At.succ)) (aggT (by kernel_rfl)) ?_) | (refine ph_v (by decide) ?_))
  replace H := H.perm (L' := _ :: _ :: _ :: _) ((List.Perm.swap _ _ _).cons _)
  exact k _ _ _ _ (H.shutDk (d := d) rfl rfl rfl rfl rfl)
theorem window_set {α : Type} (l : List α) (f n at_ : Nat) (x : α) : ((l.set at_ x).drop f).take n = if f ≤ at_ ∧ at_ < f + n then ((l.drop f).take n).set (at_ - f) x else (l.drop f).take n := by
  rw [List.drop_set]
  by_cases h1 : at_ < f
  · rw [if_pos h1, if_neg (by omega)]
  · rw [if_neg h1, List.take_set]
    by_cases h2 : at_ < f + n
    · rw [if_pos ⟨by omega, h2⟩]
    · rw [if_neg (by omega), List.set_eq_of_length_le (by simp; omega)]
theorem puts_succ (l : List (List UInt8)) {ws : List (Nat × List UInt8)} {i : Nat} (hi : i < ws.length) : puts l (ws.take (i + 1)) = (puts l (ws.take i)).set ws[i].1 ws[i].2 := by
  rw [List.take_succ_eq_append_getElem hi, puts_append]
  rfl
set_option maxHeartbeats 2000000 in
theorem dread_ret {wb : World} (H : Hp S w0 wb L) (hk : At L j (dkI D ra rb d)) (hok : d.ok) (hd : d.down = false) (hws : d.ws.length ≤ 1099511627776) {f n : Nat} (hn : 1 ≤ n) (hfn : f + n ≤ d.l.length)
    (k : ∀ a cap w', Hp S w0 w' (.row 5 1 a (n * 64) cap (ub ((d.now.drop f).take n).flatten) :: L) → K (.tuple #[.slice a (n * 64) cap, .int .i64 0]) w') : Ret Try.prog 36 #[.pointer (some ⟨D, 0, none⟩), .int .i64 f, .int .i64 n] wb K := by
  have HH := H
  have hlen := hok.len
  obtain ⟨a1, ca, b1, cb, rfl, rfl, H⟩ := H.openDk hk
  have hr1 : Row wb 150 64 a1 d.l.length ca (secsC d.l) := H.row (by with_reducible repeat (first | exact At.zero | apply At.succ))
  have hca := hr1.2.1
  have hla := hr1.lies
  have hlb := (H.row (xs := waitsC d.ws) (by with_reducible repeat (first | exact At.zero | apply At.succ))).lies
  have hcD : wb.cell? ⟨D, 1, none⟩ = some (.slice b1 d.ws.length cb) := (H.blk (cs := #[.slice a1 d.l.length ca, .slice b1 d.ws.length cb, .bool d.down]) (by with_reducible repeat (first | exact At.zero | apply At.succ))).cell rfl
  apply e36
  unfold c36
  refine ddown_ret HH hk ?_
  rw [hd]
  have i1 : decide ((f : Int) < 0) = false := by simp
  have i2 : decide ((n : Int) < 0) = false := by simp
  have i3 : decide ((d.l.length : Int) < f) = false := by simp; omega
  have i4 : decide (d.l.length < f) = false := by simp; omega
  have i5 : decide ((d.l.length : Int) - f < n) = false := by simp; omega
  repeat (first | ((first | refine val_box H ?_ | refine val_alloc H (fun w => by simp [go_sem]; rfl) ?_); clear H; intro B w hB hp H; clear hB hp; try simp only [List.set_cons_zero, List.set_cons_succ, List.setIfInBounds_toArray, List.set_set, Value.cells] at H) | (first | refine val_ld H (fun w => by simp [go_sem]) (by with_reducible repeat (first | exact At.zero | apply At.succ)) (by rfl) ?_ | refine rd_ld H (fun w => by simp [go_sem]) (by with_reducible repeat (first | exact At.zero | apply At.succ)) (by rfl) ?_ | refine val_ldB H (by with_reducible repeat (first | exact At.zero | apply At.succ)) (aggT (by kernel_rfl)) ?_ | refine rd_ldB H (by with_reducible repeat (first | exact At.zero | apply At.succ)) (aggT (by kernel_rfl)) ?_) | ((first | refine unt_st H (by with_reducible repeat (first | exact At.zero | apply At.succ)) (fun w => by simp [go_sem]) (by rfl) (by rfl) ?_ | refine unt_stB H (by with_reducible repeat (first | exact At.zero | apply At.succ)) (aggT (by kernel_rfl)) (by rfl) (by rfl) ?_); clear H; intro w ho H; clear ho; try simp only [List.set_cons_zero, List.set_cons_succ, List.setIfInBounds_toArray, List.set_set, Value.cells] at H) | (refine val_at_bs ?_; ((refine val_run (by simp [go_sem]; (try simp (disch := omega) only [w_i64, w_u64, w_u32, w_u16, w_u8, w_i32]); rfl) ?_); refine onOk_bs H ?_; clear H; intro B w hB hp H; clear hB hp; try simp only [List.set_cons_zero, List.set_cons_succ, List.setIfInBounds_toArray, List.set_set, Value.cells] at H)) | (first | (refine val_run (by simp [bin, nilc, go_sem, i1, i2, i3, i4, i5]; (try simp (disch := omega) only [w_i64, w_u64, w_u32, w_u16, w_u8, w_i32]); rfl) ?_; refine onOk_in ?_) | (refine pu_run (fun w => by simp [bin, nilc, go_sem, i1, i2, i3, i4, i5]; (try simp (disch := omega) only [w_i64, w_u64, w_u32, w_u16, w_u8, w_i32]); rfl) ?_; refine puR_in ?_) | (refine tk_run (fun w => by simp [bin, nilc, go_sem, i1, i2, i3, i4, i5]; (try simp (disch := omega) only [w_i64, w_u64, w_u32, w_u16, w_u8, w_i32]); rfl) ?_; refine puR_in ?_)) | (refine tk_at_in ?_) | (refine ph_at ?_) | (refine ph_pure (Only.refl _ _) ?_) | (refine ph_k H (by with_reducible repeat (first | exact At.zero | apply At.succ)) ?_) | (refine tk_k (fun w => by simp [go_sem]) (by rfl) ?_) | (refine ph_pure H.only ?_) | (refine ph_pure (hpT.trans H.only (fun _ _ k => k)) ?_) | (refine tk_pld H (fun w => by simp [go_sem]) (by with_reducible repeat (first | exact At.zero | apply At.succ)) (by rfl) ?_) | (refine tk_pldB H (by with_reducible repeat (first | exact At.zero | apply At.succ)) (aggT (by kernel_rfl)) ?_) | (refine gd_true_in ?_) | (refine gd_false_in ?_) | (refine gd_true_in' ?_) | (refine gd_false_in' ?_))
  rw [show ((f : Int) + (n : Int)) = ((f + n : Nat) : Int) by omega]
  (first | (refine val_run (run_slicePart el139 (show f ≤ f + n by omega) (show f + n ≤ ca by omega) _) ?_; refine onOk_in ?_) | (refine pu_run (fun w => run_slicePart el139 (show f ≤ f + n by omega) (show f + n ≤ ca by omega) w) ?_; refine puR_in ?_))
  have h64 : ∀ x ∈ d.l, x.length = 64 := hok.sec
  have hlw : Lies wb (subA a1 ca f 64) (secsC ((d.l.drop f).take n)) := by
    have h1 := (hla.sub (cap := ca) (l := f) (size := 64) (by rw [secsC_length h64]; exact Nat.mul_le_mul_right _ hca)).take (n * 64)
    have e : ((secsC d.l).drop (f * 64)).take (n * 64) = secsC ((d.l.drop f).take n) := by
      unfold secsC
      rw [flat_drop d.l (fun x hx => by rw [ub_length, h64 x hx]), flat_take (d.l.drop f) (fun x hx => by rw [ub_length, h64 x (List.mem_of_mem_drop hx)])]
    rw [e] at h1
    exact h1
  have hwlen : ((d.l.drop f).take n).length = n := by simp; omega
  clear H
  rw [show f + n - f = n by omega]
  refine clonesec_ret hwlen.symm (fun x hx => h64 x (List.mem_of_mem_drop (List.mem_of_mem_take hx))) (by omega) hlw fun a2 c2 w2 H => ?_
  rw [hwlen] at H ⊢
  (first | (refine val_run (by simp [bin, nilc, go_sem]; (try simp (disch := omega) only [w_i64, w_u64, w_u32, w_u16, w_u8, w_i32]); rfl) ?_; refine onOk_in ?_) | (refine pu_run (fun w => by simp [bin, nilc, go_sem]; (try simp (disch := omega) only [w_i64, w_u64, w_u32, w_u16, w_u8, w_i32]); rfl) ?_; refine puR_in ?_) | (refine tk_run (fun w => by simp [bin, nilc, go_sem]; (try simp (disch := omega) only [w_i64, w_u64, w_u32, w_u16, w_u8, w_i32]); rfl) ?_; refine puR_in ?_))
  (first | (refine val_run (by simp [bin, nilc, go_sem]; (try simp (disch := omega) only [w_i64, w_u64, w_u32, w_u16, w_u8, w_i32]); rfl) ?_; refine onOk_in ?_) | (refine pu_run (fun w => by simp [bin, nilc, go_sem]; (try simp (disch := omega) only [w_i64, w_u64, w_u32, w_u16, w_u8, w_i32]); rfl) ?_; refine puR_in ?_) | (refine tk_run (fun w => by simp [bin, nilc, go_sem]; (try simp (disch := omega) only [w_i64, w_u64, w_u32, w_u16, w_u8, w_i32]); rfl) ?_; refine puR_in ?_))
  refine val_ldc (fun w => by simp [go_sem]) (H.only.cell hcD id) ?_
  (first | (refine val_run (by simp [bin, nilc, go_sem]; (try simp (disch := omega) only [w_i64, w_u64, w_u32, w_u16, w_u8, w_i32]); rfl) ?_; refine onOk_in ?_) | (refine pu_run (fun w => by simp [bin, nilc, go_sem]; (try simp (disch := omega) only [w_i64, w_u64, w_u32, w_u16, w_u8, w_i32]); rfl) ?_; refine puR_in ?_) | (refine tk_run (fun w => by simp [bin, nilc, go_sem]; (try simp (disch := omega) only [w_i64, w_u64, w_u32, w_u16, w_u8, w_i32]); rfl) ?_; refine puR_in ?_))
  refine loop1 (fun v W => ∃ i : Nat, i ≤ d.ws.length ∧ v = .int .i64 i ∧ Hp (fun _ => False) wb W [.row 150 64 a2 n c2 (secsC (((puts d.l (d.ws.take i)).drop f).take n))]) (fun v _ => d.ws.length - (intOf v).toNat) ⟨0, by omega, rfl, by simpa [puts] using H⟩ ?_
  clear H
  rintro _ w3 ⟨i, hile, rfl, H⟩
  unfold c36_3
  repeat (first | ((first | refine val_box H ?_ | refine val_alloc H (fun w => by simp [go_sem]; rfl) ?_); clear H; intro B w hB hp H; clear hB hp; try simp only [List.set_cons_zero, List.set_cons_succ, List.setIfInBounds_toArray, List.set_set, Value.cells] at H) | (first | refine val_ld H (fun w => by simp [go_sem]) (by with_reducible repeat (first | exact At.zero | apply At.succ)) (by rfl) ?_ | refine rd_ld H (fun w => by simp [go_sem]) (by with_reducible repeat (first | exact At.zero | apply At.succ)) (by rfl) ?_ | refine val_ldB H (by with_reducible repeat (first | exact At.zero | apply At.succ)) (aggT (by kernel_rfl)) ?_ | refine rd_ldB H (by with_reducible repeat (first | exact At.zero | apply At.succ)) (aggT (by kernel_rfl)) ?_) | ((first | refine unt_st H (by with_reducible repeat (first | exact At.zero | apply At.succ)) (fun w => by simp [go_sem]) (by rfl) (by rfl) ?_ | refine unt_stB H (by with_reducible repeat (first | exact At.zero | apply At.succ)) (aggT (by kernel_rfl)) (by rfl) (by rfl) ?_); clear H; intro w ho H; clear ho; try simp only [List.set_cons_zero, List.set_cons_succ, List.setIfInBounds_toArray, List.set_set, Value.cells] at H) | (refine val_at_bs ?_; ((refine val_run (by simp [go_sem]; (try simp (disch := omega) only [w_i64, w_u64, w_u32, w_u16, w_u8, w_i32]); rfl) ?_); refine onOk_bs H ?_; clear H; intro B w hB hp H; clear hB hp; try simp only [List.set_cons_zero, List.set_cons_succ, List.setIfInBounds_toArray, List.set_set, Value.cells] at H)) | (first | (refine val_run (by simp [bin, nilc, go_sem]; (try simp (disch := omega) only [w_i64, w_u64, w_u32, w_u16, w_u8, w_i32]); rfl) ?_; refine onOk_in ?_) | (refine pu_run (fun w => by simp [bin, nilc, go_sem]; (try simp (disch := omega) only [w_i64, w_u64, w_u32, w_u16, w_u8, w_i32]); rfl) ?_; refine puR_in ?_) | (refine tk_run (fun w => by simp [bin, nilc, go_sem]; (try simp (disch := omega) only [w_i64, w_u64, w_u32, w_u16, w_u8, w_i32]); rfl) ?_; refine puR_in ?_)) | (refine tk_at_in ?_) | (refine ph_at ?_) | (refine ph_pure (Only.refl _ _) ?_) | (refine ph_k H (by with_reducible repeat (first | exact At.zero | apply At.succ)) ?_) | (refine tk_k (fun w => by simp [go_sem]) (by rfl) ?_) | (refine ph_pure H.only ?_) | (refine ph_pure (hpT.trans H.only (fun _ _ k => k)) ?_) | (refine tk_pld H (fun w => by simp [go_sem]) (by with_reducible repeat (first | exact At.zero | apply At.succ)) (by rfl) ?_) | (refine tk_pldB H (by with_reducible repeat (first | exact At.zero | apply At.succ)) (aggT (by kernel_rfl)) ?_) | (refine gd_true_in ?_) | (refine gd_false_in ?_) | (refine gd_true_in' ?_) | (refine gd_false_in' ?_))
  refine gd_dec (fun hlt => ?_) (fun hlt => ?_)
  · have hlt0 : i < d.ws.length := by omega
    have hpl : (puts d.l (d.ws.take i)).length = d.l.length := puts_length _ _
    have hsec : ∀ x ∈ ((puts d.l (d.ws.take i)).drop f).take n, x.length = 64 := by
      intro x hx
      obtain ⟨jj, hj⟩ := List.getElem?_of_mem (List.mem_of_mem_drop (List.mem_of_mem_take hx))
      exact puts_each (Q := fun _ s => s.length = 64) _ d.l (fun j s hj => hok.sec s (List.mem_of_getElem? hj)) (fun p hp => (hok.ws p (List.mem_of_mem_take hp)).2) jj x hj
    have hslen : (((puts d.l (d.ws.take i)).drop f).take n).length = n := by simp [hpl]; omega
    have hp64 := hok.ws d.ws[i] (List.getElem_mem hlt0)
    have hlb3 := hlb.pure H.only
    obtain ⟨b, o, rfl, _, _⟩ := hlb3.addr (by
      intro e
      have := waitsC_length (l := d.ws) (fun p hp => (hok.ws p hp).2)
      rw [e] at this
      simp at this
      omega)
    have hpart := (hlb3.dropAt (i * 65)).take 65
    rw [waits_part (fun p hp => (hok.ws p hp).2) hlt0] at hpart
    repeat (first | ((first | refine val_box H ?_ | refine val_alloc H (fun w => by simp [go_sem]; rfl) ?_); clear H; intro B w hB hp H; clear hB hp; try simp only [List.set_cons_zero, List.set_cons_succ, List.setIfInBounds_toArray, List.set_set, Value.cells] at H) | (first | refine val_ld H (fun w => by simp [go_sem]) (by with_reducible repeat (first | exact At.zero | apply At.succ)) (by rfl) ?_ | refine rd_ld H (fun w => by simp [go_sem]) (by with_reducible repeat (first | exact At.zero | apply At.succ)) (by rfl) ?_ | refine val_ldB H (by with_reducible repeat (first | exact At.zero | apply At.succ)) (aggT (by kernel_rfl)) ?_ | refine rd_ldB H (by with_reducible repeat (first | exact At.zero | apply At.succ)) (aggT (by kernel_rfl)) ?_) | ((first | refine unt_st H (by with_reducible repeat (first | exact At.zero | apply At.succ)) (fun w => by simp [go_sem]) (by rfl) (by rfl) ?_ | refine unt_stB H (by with_reducible repeat (first | exact At.zero | apply At.succ)) (aggT (by kernel_rfl)) (by rfl) (by rfl) ?_); clear H; intro w ho H; clear ho; try simp only [List.set_cons_zero, List.set_cons_succ, List.setIfInBounds_toArray, List.set_set, Value.cells] at H) | (refine val_at_bs ?_; ((refine val_run (by simp [go_sem]; (try simp (disch := omega) only [w_i64, w_u64, w_u32, w_u16, w_u8, w_i32]); rfl) ?_); refine onOk_bs H ?_; clear H; intro B w hB hp H; clear hB hp; try simp only [List.set_cons_zero, List.set_cons_succ, List.setIfInBounds_toArray, List.set_set, Value.cells] at H)) | (first | (refine val_run (by simp [bin, nilc, go_sem, hlt]; (try simp (disch := omega) only [w_i64, w_u64, w_u32, w_u16, w_u8, w_i32]); rfl) ?_; refine onOk_in ?_) | (refine pu_run (fun w => by simp [bin, nilc, go_sem, hlt]; (try simp (disch := omega) only [w_i64, w_u64, w_u32, w_u16, w_u8, w_i32]); rfl) ?_; refine puR_in ?_) | (refine tk_run (fun w => by simp [bin, nilc, go_sem, hlt]; (try simp (disch := omega) only [w_i64, w_u64, w_u32, w_u16, w_u8, w_i32]); rfl) ?_; refine puR_in ?_)) | (refine tk_at_in ?_) | (refine ph_at ?_) | (refine ph_pure (Only.refl _ _) ?_) | (refine ph_k H (by with_reducible repeat (first | exact At.zero | apply At.succ)) ?_) | (refine tk_k (fun w => by simp [go_sem]) (by rfl) ?_) | (refine ph_pure H.only ?_) | (refine ph_pure (hpT.trans H.only (fun _ _ k => k)) ?_) | (refine tk_pld H (fun w => by simp [go_sem]) (by with_reducible repeat (first | exact At.zero | apply At.succ)) (by rfl) ?_) | (refine tk_pldB H (by with_reducible repeat (first | exact At.zero | apply At.succ)) (aggT (by kernel_rfl)) ?_) | (refine gd_true_in ?_) | (refine gd_false_in ?_) | (refine gd_true_in' ?_) | (refine gd_false_in' ?_))
    refine val_ldl (aggT (by kernel_rfl)) (waitC_length _ |>.trans (by rw [hp64.2])) hpart ?_
    ((first | refine val_box H ?_ | refine val_alloc H (fun w => by simp [go_sem]; rfl) ?_); clear H; intro B w hB hp H; clear hB hp; try simp only [List.set_cons_zero, List.set_cons_succ, List.setIfInBounds_toArray, List.set_set, Value.cells] at H)
    refine unt_stB H (by with_reducible repeat (first | exact At.zero | apply At.succ)) (agw2 hp64.2) (by simp [waitC_length, hp64.2]) (List.all_eq_true.2 (waitC_one _)) ?_
    clear H
    intro w4 ho H
    clear ho
    simp only [List.set_cons_zero, List.set_cons_succ, List.setIfInBounds_toArray, List.set_set, Value.cells] at H
    obtain ⟨p, hp⟩ : ∃ p, p = d.ws[i] := ⟨_, rfl⟩
    have ewc : waitC p = .int .i64 p.1 :: ub p.2 := rfl
    rw [← hp] at H hp64
    rw [ewc] at H
    have hw := window_set (puts d.l (d.ws.take i)) f n p.1 p.2
    have hnext : puts d.l (d.ws.take (i + 1)) = (puts d.l (d.ws.take i)).set p.1 p.2 := by rw [puts_succ d.l hlt0, ← hp]
    refine join1 (fun v W => ∃ b : Bool, v = .bool b ∧ (b = true ↔ (f ≤ p.1 ∧ p.1 < f + n)) ∧ Hp (fun _ => False) wb W [.blk B (Value.int .i64 (p.1 : Nat) :: ub p.2).toArray 153, .row 150 64 a2 n c2 (secsC (((puts d.l (d.ws.take i)).drop f).take n))]) ?_ ?_
    · rintro _ w5 ⟨bb, rfl, hbb, H⟩
      unfold c36_1
      refine gd_case (fun hc => ?_) (fun hc => ?_)
      · obtain ⟨k1, k2⟩ := hbb.1 hc
        rw [if_pos ⟨k1, k2⟩, ← hnext] at hw
        obtain ⟨g, rfl, _⟩ := (H.row (xs := secsC (((puts d.l (d.ws.take i)).drop f).take n)) (by with_reducible repeat (first | exact At.zero | apply At.succ))).addr (by omega)
        repeat (first | ((first | refine val_box H ?_ | refine val_alloc H (fun w => by simp [go_sem]; rfl) ?_); clear H; intro B w hB hp H; clear hB hp; try simp only [List.set_cons_zero, List.set_cons_succ, List.setIfInBounds_toArray, List.set_set, Value.cells] at H) | (first | refine val_ld H (fun w => by simp [go_sem]) (by with_reducible repeat (first | exact At.zero | apply At.succ)) (by rfl) ?_ | refine rd_ld H (fun w => by simp [go_sem]) (by with_reducible repeat (first | exact At.zero | apply At.succ)) (by rfl) ?_ | refine val_ldB H (by with_reducible repeat (first | exact At.zero | apply At.succ)) (aggT (by kernel_rfl)) ?_ | refine rd_ldB H (by with_reducible repeat (first | exact At.zero | apply At.succ)) (aggT (by kernel_rfl)) ?_) | ((first | refine unt_st H (by with_reducible repeat (first | exact At.zero | apply At.succ)) (fun w => by simp [go_sem]) (by rfl) (by rfl) ?_ | refine unt_stB H (by with_reducible repeat (first | exact At.zero | apply At.succ)) (aggT (by kernel_rfl)) (by rfl) (by rfl) ?_); clear H; intro w ho H; clear ho; try simp only [List.set_cons_zero, List.set_cons_succ, List.setIfInBounds_toArray, List.set_set, Value.cells] at H) | (refine val_at_bs ?_; ((refine val_run (by simp [go_sem]; (try simp (disch := omega) only [w_i64, w_u64, w_u32, w_u16, w_u8, w_i32]); rfl) ?_); refine onOk_bs H ?_; clear H; intro B w hB hp H; clear hB hp; try simp only [List.set_cons_zero, List.set_cons_succ, List.setIfInBounds_toArray, List.set_set, Value.cells] at H)) | (first | (refine val_run (by simp [bin, nilc, go_sem]; (try simp (disch := omega) only [w_i64, w_u64, w_u32, w_u16, w_u8, w_i32]); rfl) ?_; refine onOk_in ?_) | (refine pu_run (fun w => by simp [bin, nilc, go_sem]; (try simp (disch := omega) only [w_i64, w_u64, w_u32, w_u16, w_u8, w_i32]); rfl) ?_; refine puR_in ?_) | (refine tk_run (fun w => by simp [bin, nilc, go_sem]; (try simp (disch := omega) only [w_i64, w_u64, w_u32, w_u16, w_u8, w_i32]); rfl) ?_; refine puR_in ?_)) | (refine tk_at_in ?_) | (refine ph_at ?_) | (refine ph_pure (Only.refl _ _) ?_) | (refine ph_k H (by with_reducible repeat (first | exact At.zero | apply At.succ)) ?_) | (refine tk_k (fun w => by simp [go_sem]) (by rfl) ?_) | (refine ph_pure H.only ?_) | (refine ph_pure (hpT.trans H.only (fun _ _ k => k)) ?_) | (refine tk_pld H (fun w => by simp [go_sem]) (by with_reducible repeat (first | exact At.zero | apply At.succ)) (by rfl) ?_) | (refine tk_pldB H (by with_reducible repeat (first | exact At.zero | apply At.succ)) (aggT (by kernel_rfl)) ?_) | (refine gd_true_in ?_) | (refine gd_false_in ?_) | (refine gd_true_in' ?_) | (refine gd_false_in' ?_))
        have hx : (((Value.int .i64 (p.1 : Nat) :: ub p.2).toArray.toList.drop 1).take 64).toArray = (ub p.2).toArray := by
          simp only [List.drop_succ_cons, List.drop_zero]
          rw [List.take_of_length_le (by rw [ub_length]; omega)]
        refine val_ldO H (n := 64) (by with_reducible repeat (first | exact At.zero | apply At.succ)) hx (by simp only [List.size_toArray, ub_length, hp64.2]; exact ag150) ?_
        rw [show ((p.1 : Nat) : Int) - (f : Int) = ((p.1 - f : Nat) : Int) by omega]
        have hlt3 : ((p.1 - f : Nat) : Int) < (n : Int) := by omega
        (first | (refine val_run (by simp [bin, nilc, go_sem, hlt3]; (try simp (disch := omega) only [w_i64, w_u64, w_u32, w_u16, w_u8, w_i32]); rfl) ?_; refine onOk_in ?_) | (refine pu_run (fun w => by simp [bin, nilc, go_sem, hlt3]; (try simp (disch := omega) only [w_i64, w_u64, w_u32, w_u16, w_u8, w_i32]); rfl) ?_; refine puR_in ?_) | (refine tk_run (fun w => by simp [bin, nilc, go_sem, hlt3]; (try simp (disch := omega) only [w_i64, w_u64, w_u32, w_u16, w_u8, w_i32]); rfl) ?_; refine puR_in ?_))
        refine unt_strS H (by with_reducible repeat (first | exact At.zero | apply At.succ)) ag150 (by rw [ub_length]; exact hp64.2) (ub_one _) (by omega) rfl (secs_put hsec (by omega) p.2) ?_
        clear H
        intro w6 ho H
        clear ho
        simp only [List.set_cons_zero, List.set_cons_succ, List.setIfInBounds_toArray, List.set_set, Value.cells] at H
        repeat (first | ((first | refine val_box H ?_ | refine val_alloc H (fun w => by simp [go_sem]; rfl) ?_); clear H; intro B w hB hp H; clear hB hp; try simp only [List.set_cons_zero, List.set_cons_succ, List.setIfInBounds_toArray, List.set_set, Value.cells] at H) | (first | refine val_ld H (fun w => by simp [go_sem]) (by with_reducible repeat (first | exact At.zero | apply At.succ)) (by rfl) ?_ | refine rd_ld H (fun w => by simp [go_sem]) (by with_reducible repeat (first | exact At.zero | apply At.succ)) (by rfl) ?_ | refine val_ldB H (by with_reducible repeat (first | exact At.zero | apply At.succ)) (aggT (by kernel_rfl)) ?_ | refine rd_ldB H (by with_reducible repeat (first | exact At.zero | apply At.succ)) (aggT (by kernel_rfl)) ?_) | ((first | refine unt_st H (by with_reducible repeat (first | exact At.zero | apply At.succ)) (fun w => by simp [go_sem]) (by rfl) (by rfl) ?_ | refine unt_stB H (by with_reducible repeat (first | exact At.zero | apply At.succ)) (aggT (by kernel_rfl)) (by rfl) (by rfl) ?_); clear H; intro w ho H; clear ho; try simp only [List.set_cons_zero, List.set_cons_succ, List.setIfInBounds_toArray, List.set_set, Value.cells] at H) | (refine val_at_bs ?_; ((refine val_run (by simp [go_sem]; (try simp (disch := omega) only [w_i64, w_u64, w_u32, w_u16, w_u8, w_i32]); rfl) ?_); refine onOk_bs H ?_; clear H; intro B w hB hp H; clear hB hp; try simp only [List.set_cons_zero, List.set_cons_succ, List.setIfInBounds_toArray, List.set_set, Value.cells] at H)) | (first | (refine val_run (by simp [bin, nilc, go_sem]; (try simp (disch := omega) only [w_i64, w_u64, w_u32, w_u16, w_u8, w_i32]); rfl) ?_; refine onOk_in ?_) | (refine pu_run (fun w => by simp [bin, nilc, go_sem]; (try simp (disch := omega) only [w_i64, w_u64, w_u32, w_u16, w_u8, w_i32]); rfl) ?_; refine puR_in ?_) | (refine tk_run (fun w => by simp [bin, nilc, go_sem]; (try simp (disch := omega) only [w_i64, w_u64, w_u32, w_u16, w_u8, w_i32]); rfl) ?_; refine puR_in ?_)) | (refine tk_at_in ?_) | (refine ph_at ?_) | (refine ph_pure (Only.refl _ _) ?_) | (refine ph_k H (by with_reducible repeat (first | exact At.zero | apply At.succ)) ?_) | (refine tk_k (fun w => by simp [go_sem]) (by rfl) ?_) | (refine ph_pure H.only ?_) | (refine ph_pure (hpT.trans H.only (fun _ _ k => k)) ?_) | (refine tk_pld H (fun w => by simp [go_sem]) (by with_reducible repeat (first | exact At.zero | apply At.succ)) (by rfl) ?_) | (refine tk_pldB H (by with_reducible repeat (first | exact At.zero | apply At.succ)) (aggT (by kernel_rfl)) ?_) | (refine gd_true_in ?_) | (refine gd_false_in ?_) | (refine gd_true_in' ?_) | (refine gd_false_in' ?_))
        rw [← hw] at H
        exact ⟨⟨i + 1, by omega, by simp, H.tail⟩, by simp [intOf]; omega⟩
      · have hno : ¬ (f ≤ p.1 ∧ p.1 < f + n) := fun h => by have := hbb.2 h; rw [hc] at this; cases this
        rw [if_neg hno, ← hnext] at hw
        repeat (first | ((first | refine val_box H ?_ | refine val_alloc H (fun w => by simp [go_sem]; rfl) ?_); clear H; intro B w hB hp H; clear hB hp; try simp only [List.set_cons_zero, List.set_cons_succ, List.setIfInBounds_toArray, List.set_set, Value.cells] at H) | (first | refine val_ld H (fun w => by simp [go_sem]) (by with_reducible repeat (first | exact At.zero | apply At.succ)) (by rfl) ?_ | refine rd_ld H (fun w => by simp [go_sem]) (by with_reducible repeat (first | exact At.zero | apply At.succ)) (by rfl) ?_ | refine val_ldB H (by with_reducible repeat (first | exact At.zero | apply At.succ)) (aggT (by kernel_rfl)) ?_ | refine rd_ldB H (by with_reducible repeat (first | exact At.zero | apply At.succ)) (aggT (by kernel_rfl)) ?_) | ((first | refine unt_st H (by with_reducible repeat (first | exact At.zero | apply At.succ)) (fun w => by simp [go_sem]) (by rfl) (by rfl) ?_ | refine unt_stB H (by with_reducible repeat (first | exact At.zero | apply At.succ)) (aggT (by kernel_rfl)) (by rfl) (by rfl) ?_); clear H; intro w ho H; clear ho; try simp only [List.set_cons_zero, List.set_cons_succ, List.setIfInBounds_toArray, List.set_set, Value.cells] at H) | (refine val_at_bs ?_; ((refine val_run (by simp [go_sem]; (try simp (disch := omega) only [w_i64, w_u64, w_u32, w_u16, w_u8, w_i32]); rfl) ?_); refine onOk_bs H ?_; clear H; intro B w hB hp H; clear hB hp; try simp only [List.set_cons_zero, List.set_cons_succ, List.setIfInBounds_toArray, List.set_set, Value.cells] at H)) | (first | (refine val_run (by simp [bin, nilc, go_sem]; (try simp (disch := omega) only [w_i64, w_u64, w_u32, w_u16, w_u8, w_i32]); rfl) ?_; refine onOk_in ?_) | (refine pu_run (fun w => by simp [bin, nilc, go_sem]; (try simp (disch := omega) only [w_i64, w_u64, w_u32, w_u16, w_u8, w_i32]); rfl) ?_; refine puR_in ?_) | (refine tk_run (fun w => by simp [bin, nilc, go_sem]; (try simp (disch := omega) only [w_i64, w_u64, w_u32, w_u16, w_u8, w_i32]); rfl) ?_; refine puR_in ?_)) | (refine tk_at_in ?_) | (refine ph_at ?_) | (refine ph_pure (Only.refl _ _) ?_) | (refine ph_k H (by with_reducible repeat (first | exact At.zero | apply At.succ)) ?_) | (refine tk_k (fun w => by simp [go_sem]) (by rfl) ?_) | (refine ph_pure H.only ?_) | (refine ph_pure (hpT.trans H.only (fun _ _ k => k)) ?_) | (refine tk_pld H (fun w => by simp [go_sem]) (by with_reducible repeat (first | exact At.zero | apply At.succ)) (by rfl) ?_) | (refine tk_pldB H (by with_reducible repeat (first | exact At.zero | apply At.succ)) (aggT (by kernel_rfl)) ?_) | (refine gd_true_in ?_) | (refine gd_false_in ?_) | (refine gd_true_in' ?_) | (refine gd_false_in' ?_))
        rw [← hw] at H
        exact ⟨⟨i + 1, by omega, by simp, H.tail⟩, by simp [intOf]; omega⟩
    · repeat (first | ((first | refine val_box H ?_ | refine val_alloc H (fun w => by simp [go_sem]; rfl) ?_); clear H; intro B w hB hp H; clear hB hp; try simp only [List.set_cons_zero, List.set_cons_succ, List.setIfInBounds_toArray, List.set_set, Value.cells] at H) | (first | refine val_ld H (fun w => by simp [go_sem]) (by with_reducible repeat (first | exact At.zero | apply At.succ)) (by rfl) ?_ | refine rd_ld H (fun w => by simp [go_sem]) (by with_reducible repeat (first | exact At.zero | apply At.succ)) (by rfl) ?_ | refine val_ldB H (by with_reducible repeat (first | exact At.zero | apply At.succ)) (aggT (by kernel_rfl)) ?_ | refine rd_ldB H (by with_reducible repeat (first | exact At.zero | apply At.succ)) (aggT (by kernel_rfl)) ?_) | ((first | refine unt_st H (by with_reducible repeat (first | exact At.zero | apply At.succ)) (fun w => by simp [go_sem]) (by rfl) (by rfl) ?_ | refine unt_stB H (by with_reducible repeat (first | exact At.zero | apply At.succ)) (aggT (by kernel_rfl)) (by rfl) (by rfl) ?_); clear H; intro w ho H; clear ho; try simp only [List.set_cons_zero, List.set_cons_succ, List.setIfInBounds_toArray, List.set_set, Value.cells] at H) | (refine val_at_bs ?_; ((refine val_run (by simp [go_sem]; (try simp (disch := omega) only [w_i64, w_u64, w_u32, w_u16, w_u8, w_i32]); rfl) ?_); refine onOk_bs H ?_; clear H; intro B w hB hp H; clear hB hp; try simp only [List.set_cons_zero, List.set_cons_succ, List.setIfInBounds_toArray, List.set_set, Value.cells] at H)) | (first | (refine val_run (by simp [bin, nilc, go_sem]; (try simp (disch := omega) only [w_i64, w_u64, w_u32, w_u16, w_u8, w_i32]); rfl) ?_; refine onOk_in ?_) | (refine pu_run (fun w => by simp [bin, nilc, go_sem]; (try simp (disch := omega) only [w_i64, w_u64, w_u32, w_u16, w_u8, w_i32]); rfl) ?_; refine puR_in ?_) | (refine tk_run (fun w => by simp [bin, nilc, go_sem]; (try simp (disch := omega) only [w_i64, w_u64, w_u32, w_u16, w_u8, w_i32]); rfl) ?_; refine puR_in ?_)) | (refine tk_at_in ?_) | (refine ph_at ?_) | (refine ph_pure (Only.refl _ _) ?_) | (refine ph_k H (by with_reducible repeat (first | exact At.zero | apply At.succ)) ?_) | (refine tk_k (fun w => by simp [go_sem]) (by rfl) ?_) | (refine ph_pure H.only ?_) | (refine ph_pure (hpT.trans H.only (fun _ _ k => k)) ?_) | (refine tk_pld H (fun w => by simp [go_sem]) (by with_reducible repeat (first | exact At.zero | apply At.succ)) (by rfl) ?_) | (refine tk_pldB H (by with_reducible repeat (first | exact At.zero | apply At.succ)) (aggT (by kernel_rfl)) ?_) | (refine gd_true_in ?_) | (refine gd_false_in ?_) | (refine gd_true_in' ?_) | (refine gd_false_in' ?_))
      refine gd_dec (fun hc => ?_) (fun hc => ?_)
      · repeat (first | ((first | refine val_box H ?_ | refine val_alloc H (fun w => by simp [go_sem]; rfl) ?_); clear H; intro B w hB hp H; clear hB hp; try simp only [List.set_cons_zero, List.set_cons_succ, List.setIfInBounds_toArray, List.set_set, Value.cells] at H) | (first | refine val_ld H (fun w => by simp [go_sem]) (by with_reducible repeat (first | exact At.zero | apply At.succ)) (by rfl) ?_ | refine rd_ld H (fun w => by simp [go_sem]) (by with_reducible repeat (first | exact At.zero | apply At.succ)) (by rfl) ?_ | refine val_ldB H (by with_reducible repeat (first | exact At.zero | apply At.succ)) (aggT (by kernel_rfl)) ?_ | refine rd_ldB H (by with_reducible repeat (first | exact At.zero | apply At.succ)) (aggT (by kernel_rfl)) ?_) | ((first | refine unt_st H (by with_reducible repeat (first | exact At.zero | apply At.succ)) (fun w => by simp [go_sem]) (by rfl) (by rfl) ?_ | refine unt_stB H (by with_reducible repeat (first | exact At.zero | apply At.succ)) (aggT (by kernel_rfl)) (by rfl) (by rfl) ?_); clear H; intro w ho H; clear ho; try simp only [List.set_cons_zero, List.set_cons_succ, List.setIfInBounds_toArray, List.set_set, Value.cells] at H) | (refine val_at_bs ?_; ((refine val_run (by simp [go_sem]; (try simp (disch := omega) only [w_i64, w_u64, w_u32, w_u16, w_u8, w_i32]); rfl) ?_); refine onOk_bs H ?_; clear H; intro B w hB hp H; clear hB hp; try simp only [List.set_cons_zero, List.set_cons_succ, List.setIfInBounds_toArray, List.set_set, Value.cells] at H)) | (first | (refine val_run (by simp [bin, nilc, go_sem]; (try simp (disch := omega) only [w_i64, w_u64, w_u32, w_u16, w_u8, w_i32]); rfl) ?_; refine onOk_in ?_) | (refine pu_run (fun w => by simp [bin, nilc, go_sem]; (try simp (disch := omega) only [w_i64, w_u64, w_u32, w_u16, w_u8, w_i32]); rfl) ?_; refine puR_in ?_) | (refine tk_run (fun w => by simp [bin, nilc, go_sem]; (try simp (disch := omega) only [w_i64, w_u64, w_u32, w_u16, w_u8, w_i32]); rfl) ?_; refine puR_in ?_)) | (refine tk_at_in ?_) | (refine ph_at ?_) | (refine ph_pure (Only.refl _ _) ?_) | (refine ph_k H (by with_reducible repeat (first | exact At.zero | apply At.succ)) ?_) | (refine tk_k (fun w => by simp [go_sem]) (by rfl) ?_) | (refine ph_pure H.only ?_) | (refine ph_pure (hpT.trans H.only (fun _ _ k => k)) ?_) | (refine tk_pld H (fun w => by simp [go_sem]) (by with_reducible repeat (first | exact At.zero | apply At.succ)) (by rfl) ?_) | (refine tk_pldB H (by with_reducible repeat (first | exact At.zero | apply At.succ)) (aggT (by kernel_rfl)) ?_) | (refine gd_true_in ?_) | (refine gd_false_in ?_) | (refine gd_true_in' ?_) | (refine gd_false_in' ?_))
        exact ⟨_, rfl, by simp; omega, H⟩
      · exact ⟨false, rfl, by simp; omega, H⟩
  · have hie : i = d.ws.length := by omega
    subst hie
    rw [List.take_length] at H
    have hnl : ((d.now.drop f).take n).length = n := by
      have : d.now.length = d.l.length := puts_length _ _
      simp [this]; omega
    have hsec : ∀ x ∈ (d.now.drop f).take n, x.length = 64 := fun x hx => hok.now x (List.mem_of_mem_drop (List.mem_of_mem_take hx))
    change Hp (fun _ => False) wb w3 [.row 150 64 a2 n c2 (secsC ((d.now.drop f).take n))] at H
    generalize (d.now.drop f).take n = X at *
    obtain ⟨g, rfl, _⟩ := (H.row (xs := secsC X) (by with_reducible repeat (first | exact At.zero | apply At.succ))).addr (by omega)
    repeat (first | ((first | refine val_box H ?_ | refine val_alloc H (fun w => by simp [go_sem]; rfl) ?_); clear H; intro B w hB hp H; clear hB hp; try simp only [List.set_cons_zero, List.set_cons_succ, List.setIfInBounds_toArray, List.set_set, Value.cells] at H) | (first | refine val_ld H (fun w => by simp [go_sem]) (by with_reducible repeat (first | exact At.zero | apply At.succ)) (by rfl) ?_ | refine rd_ld H (fun w => by simp [go_sem]) (by with_reducible repeat (first | exact At.zero | apply At.succ)) (by rfl) ?_ | refine val_ldB H (by with_reducible repeat (first | exact At.zero | apply At.succ)) (aggT (by kernel_rfl)) ?_ | refine rd_ldB H (by with_reducible repeat (first | exact At.zero | apply At.succ)) (aggT (by kernel_rfl)) ?_) | ((first | refine unt_st H (by with_reducible repeat (first | exact At.zero | apply At.succ)) (fun w => by simp [go_sem]) (by rfl) (by rfl) ?_ | refine unt_stB H (by with_reducible repeat (first | exact At.zero | apply At.succ)) (aggT (by kernel_rfl)) (by rfl) (by rfl) ?_); clear H; intro w ho H; clear ho; try simp only [List.set_cons_zero, List.set_cons_succ, List.setIfInBounds_toArray, List.set_set, Value.cells] at H) | (refine val_at_bs ?_; ((refine val_run (by simp [go_sem]; (try simp (disch := omega) only [w_i64, w_u64, w_u32, w_u16, w_u8, w_i32]); rfl) ?_); refine onOk_bs H ?_; clear H; intro B w hB hp H; clear hB hp; try simp only [List.set_cons_zero, List.set_cons_succ, List.setIfInBounds_toArray, List.set_set, Value.cells] at H)) | (first | (refine val_run (by simp [bin, nilc, go_sem]; (try simp (disch := omega) only [w_i64, w_u64, w_u32, w_u16, w_u8, w_i32]); rfl) ?_; refine onOk_in ?_) | (refine pu_run (fun w => by simp [bin, nilc, go_sem]; (try simp (disch := omega) only [w_i64, w_u64, w_u32, w_u16, w_u8, w_i32]); rfl) ?_; refine puR_in ?_) | (refine tk_run (fun w => by simp [bin, nilc, go_sem]; (try simp (disch := omega) only [w_i64, w_u64, w_u32, w_u16, w_u8, w_i32]); rfl) ?_; refine puR_in ?_)) | (refine tk_at_in ?_) | (refine ph_at ?_) | (refine ph_pure (Only.refl _ _) ?_) | (refine ph_k H (by with_reducible repeat (first | exact At.zero | apply At.succ)) ?_) | (refine tk_k (fun w => by simp [go_sem]) (by rfl) ?_) | (refine ph_pure H.only ?_) | (refine ph_pure (hpT.trans H.only (fun _ _ k => k)) ?_) | (refine tk_pld H (fun w => by simp [go_sem]) (by with_reducible repeat (first | exact At.zero | apply At.succ)) (by rfl) ?_) | (refine tk_pldB H (by with_reducible repeat (first | exact At.zero | apply At.succ)) (aggT (by kernel_rfl)) ?_) | (refine gd_true_in ?_) | (refine gd_false_in ?_) | (refine gd_true_in' ?_) | (refine gd_false_in' ?_))
    refine loop2 (fun v u W => ∃ (i : Nat) (a : Option Addr) (cap : Nat), i ≤ n ∧ v = .slice a (i * 64) cap ∧ u = .int .i64 i ∧ Hp (fun _ => False) wb W [.row 5 1 a (i * 64) cap (ub (X.take i).flatten), .row 150 64 (some ⟨g, 0, none⟩) n c2 (secsC X)]) (fun _ u _ => n - (intOf u).toNat) ⟨0, none, 0, by omega, by simp, rfl, by have h := H.nil 5 1; simpa [ub] using h⟩ ?_
    clear H
    rintro _ _ w4 ⟨i, a, cap, hin, rfl, rfl, H⟩
    unfold c36_2
    repeat (first | ((first | refine val_box H ?_ | refine val_alloc H (fun w => by simp [go_sem]; rfl) ?_); clear H; intro B w hB hp H; clear hB hp; try simp only [List.set_cons_zero, List.set_cons_succ, List.setIfInBounds_toArray, List.set_set, Value.cells] at H) | (first | refine val_ld H (fun w => by simp [go_sem]) (by with_reducible repeat (first | exact At.zero | apply At.succ)) (by rfl) ?_ | refine rd_ld H (fun w => by simp [go_sem]) (by with_reducible repeat (first | exact At.zero | apply At.succ)) (by rfl) ?_ | refine val_ldB H (by with_reducible repeat (first | exact At.zero | apply At.succ)) (aggT (by kernel_rfl)) ?_ | refine rd_ldB H (by with_reducible repeat (first | exact At.zero | apply At.succ)) (aggT (by kernel_rfl)) ?_) | ((first | refine unt_st H (by with_reducible repeat (first | exact At.zero | apply At.succ)) (fun w => by simp [go_sem]) (by rfl) (by rfl) ?_ | refine unt_stB H (by with_reducible repeat (first | exact At.zero | apply At.succ)) (aggT (by kernel_rfl)) (by rfl) (by rfl) ?_); clear H; intro w ho H; clear ho; try simp only [List.set_cons_zero, List.set_cons_succ, List.setIfInBounds_toArray, List.set_set, Value.cells] at H) | (refine val_at_bs ?_; ((refine val_run (by simp [go_sem]; (try simp (disch := omega) only [w_i64, w_u64, w_u32, w_u16, w_u8, w_i32]); rfl) ?_); refine onOk_bs H ?_; clear H; intro B w hB hp H; clear hB hp; try simp only [List.set_cons_zero, List.set_cons_succ, List.setIfInBounds_toArray, List.set_set, Value.cells] at H)) | (first | (refine val_run (by simp [bin, nilc, go_sem]; (try simp (disch := omega) only [w_i64, w_u64, w_u32, w_u16, w_u8, w_i32]); rfl) ?_; refine onOk_in ?_) | (refine pu_run (fun w => by simp [bin, nilc, go_sem]; (try simp (disch := omega) only [w_i64, w_u64, w_u32, w_u16, w_u8, w_i32]); rfl) ?_; refine puR_in ?_) | (refine tk_run (fun w => by simp [bin, nilc, go_sem]; (try simp (disch := omega) only [w_i64, w_u64, w_u32, w_u16, w_u8, w_i32]); rfl) ?_; refine puR_in ?_)) | (refine tk_at_in ?_) | (refine ph_at ?_) | (refine ph_pure (Only.refl _ _) ?_) | (refine ph_k H (by with_reducible repeat (first | exact At.zero | apply At.succ)) ?_) | (refine tk_k (fun w => by simp [go_sem]) (by rfl) ?_) | (refine ph_pure H.only ?_) | (refine ph_pure (hpT.trans H.only (fun _ _ k => k)) ?_) | (refine tk_pld H (fun w => by simp [go_sem]) (by with_reducible repeat (first | exact At.zero | apply At.succ)) (by rfl) ?_) | (refine tk_pldB H (by with_reducible repeat (first | exact At.zero | apply At.succ)) (aggT (by kernel_rfl)) ?_) | (refine gd_true_in ?_) | (refine gd_false_in ?_) | (refine gd_true_in' ?_) | (refine gd_false_in' ?_))
    refine gd_dec (fun hlt2 => ?_) (fun hlt2 => ?_)
    · have hlt3 : i < X.length := by omega
      have hpart := H.rowPart (q := 1) (by with_reducible repeat (first | exact At.zero | apply At.succ)) (secs_part hsec hlt3)
      repeat (first | ((first | refine val_box H ?_ | refine val_alloc H (fun w => by simp [go_sem]; rfl) ?_); clear H; intro B w hB hp H; clear hB hp; try simp only [List.set_cons_zero, List.set_cons_succ, List.setIfInBounds_toArray, List.set_set, Value.cells] at H) | (first | refine val_ld H (fun w => by simp [go_sem]) (by with_reducible repeat (first | exact At.zero | apply At.succ)) (by rfl) ?_ | refine rd_ld H (fun w => by simp [go_sem]) (by with_reducible repeat (first | exact At.zero | apply At.succ)) (by rfl) ?_ | refine val_ldB H (by with_reducible repeat (first | exact At.zero | apply At.succ)) (aggT (by kernel_rfl)) ?_ | refine rd_ldB H (by with_reducible repeat (first | exact At.zero | apply At.succ)) (aggT (by kernel_rfl)) ?_) | ((first | refine unt_st H (by with_reducible repeat (first | exact At.zero | apply At.succ)) (fun w => by simp [go_sem]) (by rfl) (by rfl) ?_ | refine unt_stB H (by with_reducible repeat (first | exact At.zero | apply At.succ)) (aggT (by kernel_rfl)) (by rfl) (by rfl) ?_); clear H; intro w ho H; clear ho; try simp only [List.set_cons_zero, List.set_cons_succ, List.setIfInBounds_toArray, List.set_set, Value.cells] at H) | (refine val_at_bs ?_; ((refine val_run (by simp [go_sem]; (try simp (disch := omega) only [w_i64, w_u64, w_u32, w_u16, w_u8, w_i32]); rfl) ?_); refine onOk_bs H ?_; clear H; intro B w hB hp H; clear hB hp; try simp only [List.set_cons_zero, List.set_cons_succ, List.setIfInBounds_toArray, List.set_set, Value.cells] at H)) | (first | (refine val_run (by simp [bin, nilc, go_sem, hlt2]; (try simp (disch := omega) only [w_i64, w_u64, w_u32, w_u16, w_u8, w_i32]); rfl) ?_; refine onOk_in ?_) | (refine pu_run (fun w => by simp [bin, nilc, go_sem, hlt2]; (try simp (disch := omega) only [w_i64, w_u64, w_u32, w_u16, w_u8, w_i32]); rfl) ?_; refine puR_in ?_) | (refine tk_run (fun w => by simp [bin, nilc, go_sem, hlt2]; (try simp (disch := omega) only [w_i64, w_u64, w_u32, w_u16, w_u8, w_i32]); rfl) ?_; refine puR_in ?_)) | (refine tk_at_in ?_) | (refine ph_at ?_) | (refine ph_pure (Only.refl _ _) ?_) | (refine ph_k H (by with_reducible repeat (first | exact At.zero | apply At.succ)) ?_) | (refine tk_k (fun w => by simp [go_sem]) (by rfl) ?_) | (refine ph_pure H.only ?_) | (refine ph_pure (hpT.trans H.only (fun _ _ k => k)) ?_) | (refine tk_pld H (fun w => by simp [go_sem]) (by with_reducible repeat (first | exact At.zero | apply At.succ)) (by rfl) ?_) | (refine tk_pldB H (by with_reducible repeat (first | exact At.zero | apply At.succ)) (aggT (by kernel_rfl)) ?_) | (refine gd_true_in ?_) | (refine gd_false_in ?_) | (refine gd_true_in' ?_) | (refine gd_false_in' ?_))
      have hls : Lies w4 (some ⟨g, i * 64, none⟩) (ub X[i]) := hpart
      refine val_app H el24 (by with_reducible repeat (first | exact At.zero | apply At.succ)) hls (by rw [ub_length, hsec _ (List.getElem_mem hlt3)]) (ub_one _) (by unfold maxLen; omega) (by omega) ?_
      clear H
      intro a3 cap3 w5 ho hat H
      clear ho hat
      simp only [List.set_cons_zero, List.set_cons_succ, List.setIfInBounds_toArray, List.set_set, Value.cells] at H
      repeat (first | ((first | refine val_box H ?_ | refine val_alloc H (fun w => by simp [go_sem]; rfl) ?_); clear H; intro B w hB hp H; clear hB hp; try simp only [List.set_cons_zero, List.set_cons_succ, List.setIfInBounds_toArray, List.set_set, Value.cells] at H) | (first | refine val_ld H (fun w => by simp [go_sem]) (by with_reducible repeat (first | exact At.zero | apply At.succ)) (by rfl) ?_ | refine rd_ld H (fun w => by simp [go_sem]) (by with_reducible repeat (first | exact At.zero | apply At.succ)) (by rfl) ?_ | refine val_ldB H (by with_reducible repeat (first | exact At.zero | apply At.succ)) (aggT (by kernel_rfl)) ?_ | refine rd_ldB H (by with_reducible repeat (first | exact At.zero | apply At.succ)) (aggT (by kernel_rfl)) ?_) | ((first | refine unt_st H (by with_reducible repeat (first | exact At.zero | apply At.succ)) (fun w => by simp [go_sem]) (by rfl) (by rfl) ?_ | refine unt_stB H (by with_reducible repeat (first | exact At.zero | apply At.succ)) (aggT (by kernel_rfl)) (by rfl) (by rfl) ?_); clear H; intro w ho H; clear ho; try simp only [List.set_cons_zero, List.set_cons_succ, List.setIfInBounds_toArray, List.set_set, Value.cells] at H) | (refine val_at_bs ?_; ((refine val_run (by simp [go_sem]; (try simp (disch := omega) only [w_i64, w_u64, w_u32, w_u16, w_u8, w_i32]); rfl) ?_); refine onOk_bs H ?_; clear H; intro B w hB hp H; clear hB hp; try simp only [List.set_cons_zero, List.set_cons_succ, List.setIfInBounds_toArray, List.set_set, Value.cells] at H)) | (first | (refine val_run (by simp [bin, nilc, go_sem]; (try simp (disch := omega) only [w_i64, w_u64, w_u32, w_u16, w_u8, w_i32]); rfl) ?_; refine onOk_in ?_) | (refine pu_run (fun w => by simp [bin, nilc, go_sem]; (try simp (disch := omega) only [w_i64, w_u64, w_u32, w_u16, w_u8, w_i32]); rfl) ?_; refine puR_in ?_) | (refine tk_run (fun w => by simp [bin, nilc, go_sem]; (try simp (disch := omega) only [w_i64, w_u64, w_u32, w_u16, w_u8, w_i32]); rfl) ?_; refine puR_in ?_)) | (refine tk_at_in ?_) | (refine ph_at ?_) | (refine ph_pure (Only.refl _ _) ?_) | (refine ph_k H (by with_reducible repeat (first | exact At.zero | apply At.succ)) ?_) | (refine tk_k (fun w => by simp [go_sem]) (by rfl) ?_) | (refine ph_pure H.only ?_) | (refine ph_pure (hpT.trans H.only (fun _ _ k => k)) ?_) | (refine tk_pld H (fun w => by simp [go_sem]) (by with_reducible repeat (first | exact At.zero | apply At.succ)) (by rfl) ?_) | (refine tk_pldB H (by with_reducible repeat (first | exact At.zero | apply At.succ)) (aggT (by kernel_rfl)) ?_) | (refine gd_true_in ?_) | (refine gd_false_in ?_) | (refine gd_true_in' ?_) | (refine gd_false_in' ?_))
      refine ⟨⟨i + 1, a3, cap3, by omega, by congr 1; omega, by simp, ?_⟩, by simp [intOf]; omega⟩
      have e : (X.take (i + 1)).flatten = (X.take i).flatten ++ X[i] := by rw [List.take_succ_eq_append_getElem hlt3, List.flatten_append]; simp
      rw [e, ub_append, show (i + 1) * 64 = i * 64 + 64 by omega]
      exact H
    · have hie : i = n := by omega
      subst hie
      rw [List.take_of_length_le (by omega)] at H
      repeat (first | ((first | refine val_box H ?_ | refine val_alloc H (fun w => by simp [go_sem]; rfl) ?_); clear H; intro B w hB hp H; clear hB hp; try simp only [List.set_cons_zero, List.set_cons_succ, List.setIfInBounds_toArray, List.set_set, Value.cells] at H) | (first | refine val_ld H (fun w => by simp [go_sem]) (by with_reducible repeat (first | exact At.zero | apply At.succ)) (by rfl) ?_ | refine rd_ld H (fun w => by simp [go_sem]) (by with_reducible repeat (first | exact At.zero | apply At.succ)) (by rfl) ?_ | refine val_ldB H (by with_reducible repeat (first | exact At.zero | apply At.succ)) (aggT (by kernel_rfl)) ?_ | refine rd_ldB H (by with_reducible repeat (first | exact At.zero | apply At.succ)) (aggT (by kernel_rfl)) ?_) | ((first | refine unt_st H (by with_reducible repeat (first | exact At.zero | apply At.succ)) (fun w => by simp [go_sem]) (by rfl) (by rfl) ?_ | refine unt_stB H (by with_reducible repeat (first | exact At.zero | apply At.succ)) (aggT (by kernel_rfl)) (by rfl) (by rfl) ?_); clear H; intro w ho H; clear ho; try simp only [List.set_cons_zero, List.set_cons_succ, List.setIfInBounds_toArray, List.set_set, Value.cells] at H) | (refine val_at_bs ?_; ((refine val_run (by simp [go_sem]; (try simp (disch := omega) only [w_i64, w_u64, w_u32, w_u16, w_u8, w_i32]); rfl) ?_); refine onOk_bs H ?_; clear H; intro B w hB hp H; clear hB hp; try simp only [List.set_cons_zero, List.set_cons_succ, List.setIfInBounds_toArray, List.set_set, Value.cells] at H)) | (first | (refine val_run (by simp [bin, nilc, go_sem]; (try simp (disch := omega) only [w_i64, w_u64, w_u32, w_u16, w_u8, w_i32]); rfl) ?_; refine onOk_in ?_) | (refine pu_run (fun w => by simp [bin, nilc, go_sem]; (try simp (disch := omega) only [w_i64, w_u64, w_u32, w_u16, w_u8, w_i32]); rfl) ?_; refine puR_in ?_) | (refine tk_run (fun w => by simp [bin, nilc, go_sem]; (try simp (disch := omega) only [w_i64, w_u64, w_u32, w_u16, w_u8, w_i32]); rfl) ?_; refine puR_in ?_)) | (refine tk_at_in ?_) | (refine ph_at ?_) | (refine ph_pure (Only.refl _ _) ?_) | (refine ph_k H (by with_reducible repeat (first | exact At.zero | apply At.succ)) ?_) | (refine tk_k (fun w => by simp [go_sem]) (by rfl) ?_) | (refine ph_pure H.only ?_) | (refine ph_pure (hpT.trans H.only (fun _ _ k => k)) ?_) | (refine tk_pld H (fun w => by simp [go_sem]) (by with_reducible repeat (first | exact At.zero | apply At.succ)) (by rfl) ?_) | (refine tk_pldB H (by with_reducible repeat (first | exact At.zero | apply At.succ)) (aggT (by kernel_rfl)) ?_) | (refine gd_true_in ?_) | (refine gd_false_in ?_) | (refine gd_true_in' ?_) | (refine gd_false_in' ?_))
      exact k _ _ _ (HH.news (H.drop (L' := [_]) ((List.Sublist.refl _).cons _ |>.cons_cons _)))
end
end Go.Proofs.Ytchmcjimnliodaa
end
