/- The document's octets (complineref01): Read. -/
import Derived.Test.YtchmcjimnliodaaRef
namespace Go.Proofs.Ytchmcjimnliodaa
open Go.RowKit
set_option maxRecDepth 100000

/-- What digits of seven bits, the lowest first, come to. -/
def numval : List UInt8 → Nat
  | [] => 0
  | c :: t => c.toNat % 128 + 128 * numval t
theorem val_snoc (l : List UInt8) (c : UInt8) : numval (l ++ [c]) = numval l + c.toNat % 128 * 128 ^ l.length := by
  induction l with
  | nil => simp [numval]
  | cons d t ih =>
    simp only [List.cons_append, numval, ih, List.length_cons, Nat.pow_succ, Nat.mul_add]
    rw [show 128 * (c.toNat % 128 * 128 ^ t.length) = c.toNat % 128 * (128 ^ t.length * 128) by rw [Nat.mul_comm 128, Nat.mul_assoc]]
    omega
theorem val_lt (l : List UInt8) : numval l < 128 ^ l.length := by
  induction l with
  | nil => simp [numval]
  | cons d t ih =>
    simp only [numval, List.length_cons, Nat.pow_succ]
    have := Nat.mod_lt d.toNat (show 0 < 128 by decide)
    omega
theorem val_drop {l : List UInt8} {m : Nat} (h : m < l.length) : numval (l.drop m) = (l[m]).toNat % 128 + 128 * numval (l.drop (m + 1)) := by
  rw [List.drop_eq_getElem_cons h, numval]
def refRead (bs : List UInt8) : Nat × Nat × Int :=
  if (dec 0 0 bs).2.e = 0 then ((dec 0 0 bs).1, bs.length - (dec 0 0 bs).2.b.length, 0) else (0, 0, (dec 0 0 bs).2.e)
theorem val_small {l : List UInt8} {c : UInt8} (hl : l.length ≤ 9) (h9 : l.length = 9 → c.toNat ≤ 1) (m : Nat) (hm : m ≤ l.length) : numval ((l ++ [c]).drop m) < 18446744073709551616 := by
  rw [List.drop_append_of_le_length hm, val_snoc]
  have h1 := val_lt (l.drop m)
  have hz : (l.drop m).length = l.length - m := by simp
  rw [hz] at h1 ⊢
  have hc : c.toNat % 128 ≤ 127 := by omega
  by_cases h : l.length = 9
  · have := h9 h
    have hc : c.toNat % 128 ≤ 1 := by omega
    have hp : 128 ^ (l.length - m) ≤ 128 ^ 9 := Nat.pow_le_pow_right (by decide) (by omega)
    have : c.toNat % 128 * 128 ^ (l.length - m) ≤ 1 * 128 ^ 9 := Nat.mul_le_mul hc hp
    omega
  · have hp : 128 ^ (l.length - m) ≤ 128 ^ 8 := Nat.pow_le_pow_right (by decide) (by omega)
    have : c.toNat % 128 * 128 ^ (l.length - m) ≤ 127 * 128 ^ 8 := Nat.mul_le_mul hc hp
    omega
set_option maxHeartbeats 1000000 in
theorem refread_any (bs : List UInt8) (hlen : bs.length ≤ 1048576) (w : World) :
    Calls Try.prog 64 #[.string (str bs)] w fun e w' => e = .returned (.tuple #[.int .u64 (refRead bs).1, .int .i64 (refRead bs).2.1, .int .i64 (refRead bs).2.2]) ∧ w = w' := by
  have hz := str_size bs
  obtain ⟨R, hR⟩ : ∃ R, R = refRead bs := ⟨_, rfl⟩
  rw [← hR]
  have HR := Lib.hid hR
  clear hR
  go_enter Try.func64, Try.ntmps64
  go_wp2_with fail
  go_loopw [5] (fun i wr => ∃ k : Nat, k ≤ 9 ∧ k ≤ bs.length ∧ i = .int .i64 ((k + 1 : Nat) : Int) ∧ wr = w ∧ dec 0 0 bs = dec (7 * k) (numval (bs.take k)) (bs.drop k)) (fun i _ => 11 - (intOf i).toNat)
  case atStart => exact ⟨0, by omega, by omega, rfl, rfl, rfl⟩
  case round =>
    obtain ⟨k, hk9, hkl, rfl, rfl, hd⟩ := hrel
    have Hd := Lib.hid hd
    clear hd
    by_cases hl : bs.length = k
    · go_wp2_with fail
      go_ret3
      refine ⟨?_, rfl⟩
      have hd := Hd.out
      have : bs.drop k = [] := by rw [← hl]; simp
      rw [this, dec] at hd
      rw [HR.out]
      simp [refRead, hd]
    · have hlt : k < bs.length := by omega
      obtain ⟨c, hc⟩ : ∃ c, c = bs[k] := ⟨_, rfl⟩
      have hdrop : bs.drop k = c :: bs.drop (k + 1) := by rw [hc]; exact List.drop_eq_getElem_cons hlt
      obtain ⟨p, hp⟩ : ∃ p, p = c.toNat := ⟨_, rfl⟩
      have hidx : ∀ h, ((str bs)[k]'h).toNat = p := by intro h; rw [hp, hc]; rfl
      have hp256 : p < 256 := by rw [hp]; exact c.toNat_lt
      have Hdrop := Lib.hid hdrop
      have Hc := Lib.hid hc
      have Hp := Lib.hid hp
      clear hdrop hc hp
      go_wp2_with fail
      all_goals first
        | (go_ret3
           refine ⟨?_, rfl⟩
           have hb : numBad (7 * k) c = true := by
             rw [numBad_eq, decide_eq_true_iff, ← Hp.out]
             omega
           have hd := Hd.out
           rw [Hdrop.out, dec_bad hb] at hd
           rw [HR.out]
           simp [refRead, hd]; done)
        | (have hg : numBad (7 * k) c = false ∧ p < 128 := by
             rw [numBad_eq, decide_eq_false_iff_not, ← Hp.out]
             omega
           have Hg := Lib.hid hg
           clear hg
           go_loopw [7, 8] (fun v i wr2 => ∃ m : Nat, m ≤ k + 1 ∧ i = .int .i64 ((m : Int) - 1) ∧ v = .int .u64 (numval ((bs.take (k + 1)).drop m)) ∧ wr2 = wr) (fun _ i _ => (intOf i + 1).toNat)
           case atStart => exact ⟨k + 1, by omega, by go_num, by rw [List.drop_eq_nil_of_le (by simp; omega)]; rfl, rfl⟩
           case round =>
             obtain ⟨m, hm, rfl, rfl, rfl⟩ := hrel
             have hg := Hg.out
             have h1 : bs.take (k + 1) = bs.take k ++ [c] := by rw [List.take_succ_eq_append_getElem hlt, Hc.out]
             obtain ⟨L, hL⟩ : ∃ L, L = bs.take (k + 1) := ⟨_, rfl⟩
             rw [← hL]
             have hLl : L.length = k + 1 := by rw [hL]; simp; omega
             have hbig : ∀ m, m ≤ k → numval (L.drop m) < 18446744073709551616 := by
               intro m hm
               rw [hL, h1]
               refine val_small (by simp; omega) ?_ m (by simp; omega)
               intro h9
               have hb := hg.1
               rw [numBad_eq, decide_eq_false_iff_not] at hb
               simp at h9
               omega
             have HL := Lib.hid hL
             have H1 := Lib.hid h1
             have Hg2 := Lib.hid hg
             clear hL h1 hg
             cases m with
             | zero =>
               go_wp2_with fail
               go_ret3
               refine ⟨?_, rfl⟩
               have hd := Hd.out
               rw [Hdrop.out, dec_ret Hg2.out.1 (by rw [← Hp.out]; exact Hg2.out.2)] at hd
               rw [HR.out, List.drop_zero, HL.out, H1.out, val_snoc, List.length_take, Nat.min_eq_left (by omega), show 128 ^ k = 2 ^ (7 * k) by rw [Nat.pow_mul]]
               simp only [refRead, hd]
               simp
               omega
             | succ j =>
               have hj : j < L.length := by omega
               have hv := val_drop hj
               have hb := hbig j (by omega)
               obtain ⟨q, hq⟩ : ∃ q, q = (L[j]).toNat := ⟨_, rfl⟩
               have hidx : ∀ h, ((str bs)[j]'h).toNat = q := by intro h; rw [hq]; have := HL.out; subst this; rw [List.getElem_take]; rfl
               rw [← hq] at hv
               have Hq := Lib.hid hq
               clear hq
               have e0 : (q : Int).tmod 128 = (q : Int) % 128 := Int.tmod_eq_emod_of_nonneg (by omega)
               rw [hv] at hb
               have Hv := Lib.hid hv
               clear hv hbig
               go_wp2_with fail
               go_roundw
               case rel => exact ⟨j, by omega, by go_num, by rw [Hv.out]; go_num, trivial⟩
               case measure => simp only [intOf]; omega)
        | (go_roundw
           case rel =>
             refine ⟨k + 1, by omega, by omega, by go_num, trivial, ?_⟩
             have hb : numBad (7 * k) c = false := by
               rw [numBad_eq, decide_eq_false_iff_not, ← Hp.out]
               omega
             rw [Hd.out, Hdrop.out, dec_go hb (by rw [← Hp.out]; omega)]
             have e1 : bs.take (k + 1) = bs.take k ++ [c] := by rw [List.take_succ_eq_append_getElem hlt, Hc.out]
             rw [e1, val_snoc, List.length_take, Nat.min_eq_left (by omega), Nat.pow_mul]
             rfl
           case measure => simp only [intOf]; omega)

end Go.Proofs.Ytchmcjimnliodaa
