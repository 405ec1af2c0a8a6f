/- crc: what step and More give. -/
import Derived.Test.YtchmcjimnliodaaOctR
import Derived.Test.YtchmcjimnliodaaCrcP
namespace Go.Proofs.Ytchmcjimnliodaa
open Go.RowKit
set_option maxRecDepth 100000
theorem bv_xor (a b : BitVec 32) : bits .xor .u32 (a.toNat : Int) (b.toNat : Int) = ((a ^^^ b).toNat : Int) := by
  rw [bits_xor .u32 rfl _ _ a.isLt b.isLt, BitVec.toNat_xor]
theorem bv_shr (a : BitVec 32) : (a.toNat : Int) / (2 : Int) = ((a >>> 1).toNat : Int) := by
  rw [BitVec.toNat_ushiftRight, Nat.shiftRight_eq_div_pow]; omega
theorem bv_odd (a : BitVec 32) : (bits .and .u32 (a.toNat : Int) 1 == 1) = a.getLsbD 0 := by
  have e : bits .and .u32 (a.toNat : Int) 1 = ((a.toNat % 2 : Nat) : Int) := by
    rw [show (1 : Int) = ((1 : Nat) : Int) from rfl, bits_and .u32 rfl _ 1 a.isLt (by decide)]
    congr 1
    exact Nat.and_two_pow_sub_one_eq_mod a.toNat 1
  rw [e, BitVec.getLsbD, Nat.testBit_zero, Bool.eq_iff_iff]
  simp
  omega
theorem bv_byte (b : UInt8) : (b.toNat : Int) = ((BitVec.ofNat 32 b.toNat).toNat : Int) := by
  have := b.toNat_lt
  rw [BitVec.toNat_ofNat]; omega
theorem step_any (s : BitVec 32) (b : UInt8) (w : World) : Calls Try.prog 104 #[.int .u32 s.toNat, .int .u8 b.toNat] w fun e w' => e = .returned (.int .u32 (cstep s b).toNat) ∧ w = w' := by
  have hb := b.toNat_lt
  have hx : bits .xor .u32 (s.toNat : Int) (b.toNat : Int) = ((cbits 0 (s ^^^ BitVec.ofNat 32 b.toNat)).toNat : Int) := by rw [bv_byte b, bv_xor]; rfl
  have Hx := Lib.hid hx
  have hs0 : 0 ≤ (s.toNat : Int) := by omega
  clear hx
  obtain ⟨n, hn⟩ : ∃ n : Nat, n = s.toNat := ⟨_, rfl⟩
  go_enter Try.func104, Try.ntmps104
  go_wp2
  go_loop [0, 9] (fun v i => ∃ k : Nat, k ≤ 8 ∧ i = .int .i64 k ∧ v = .int .u32 (cbits k (s ^^^ BitVec.ofNat 32 b.toNat)).toNat) (fun _ i => 8 - (intOf i).toNat)
  case atStart => exact ⟨0, by omega, rfl, by rw [Hx.out]⟩
  case round =>
    obtain ⟨k, hk, rfl, hv⟩ := hrel
    obtain ⟨z, hz⟩ : ∃ z, z = cbits k (s ^^^ BitVec.ofNat 32 b.toNat) := ⟨_, rfl⟩
    rw [← hz] at hv
    subst hv
    have Hz := Lib.hid hz
    clear hz
    by_cases hodd : z.getLsbD 0 = true
    · have ho := (bv_odd z).trans hodd
      have Hodd := Lib.hid hodd
      clear hodd
      go_wp2
      · go_round
        case rel =>
          refine ⟨k + 1, by omega, by go_num, ?_⟩
          have e : cbits (k + 1) (s ^^^ BitVec.ofNat 32 b.toNat) = (z >>> 1) ^^^ 3988292384#32 := by
            show cbit (cbits k _) = _
            rw [← Hz.out, cbit, if_pos Hodd.out]
          rw [e, bv_shr, ← bv_xor]; rfl
        case measure => simp [intOf]; omega
      · have : k = 8 := by omega
        subst this
        go_ret
        exact ⟨congrArg (fun x : BitVec 32 => Ending.returned (.int .u32 x.toNat)) Hz.out, rfl⟩
    · have ho := (bv_odd z).trans (Bool.eq_false_iff.2 hodd)
      have Hodd := Lib.hid hodd
      clear hodd
      go_wp2
      · go_round
        case rel =>
          refine ⟨k + 1, by omega, by go_num, ?_⟩
          have e : cbits (k + 1) (s ^^^ BitVec.ofNat 32 b.toNat) = z >>> 1 := by
            show cbit (cbits k _) = _
            rw [← Hz.out, cbit, if_neg Hodd.out]
          rw [e, bv_shr]
        case measure => simp [intOf]; omega
      · have : k = 8 := by omega
        subst this
        go_ret
        exact ⟨congrArg (fun x : BitVec 32 => Ending.returned (.int .u32 x.toNat)) Hz.out, rfl⟩
theorem bv_not (s : BitVec 32) : bits .xor .u32 IntKind.u32.max (s.toNat : Int) = ((~~~s).toNat : Int) := by
  have e : IntKind.u32.max = ((BitVec.allOnes 32).toNat : Int) := by decide
  rw [e, bv_xor, BitVec.allOnes_xor]
theorem more_any (s : BitVec 32) (a : Option Addr) (cap : Nat) (bs : List UInt8) (w : World) (hl : Lies w a (ub bs)) (hlen : bs.length ≤ 1099511627776) :
    Calls Try.prog 60 #[.int .u32 s.toNat, .slice a bs.length cap] w fun e w' => e = .returned (.int .u32 (more s bs).toNat) ∧ w = w' := by
  obtain ⟨z0, hz0⟩ : ∃ z0, z0 = ~~~s := ⟨_, rfl⟩
  have hn := bv_not s
  rw [← hz0] at hn
  have Hn := Lib.hid hn
  have Hz0 := Lib.hid hz0
  clear hn hz0
  go_enter Try.func60, Try.ntmps60
  go_wp2
  rw [Hn.out]
  go_loop [0, 6, 11] (fun v _ i => ∃ k : Nat, k ≤ bs.length ∧ i = .int .i64 k ∧ v = .int .u32 ((bs.take k).foldl cstep z0).toNat) (fun _ _ i => bs.length - (intOf i).toNat)
  case atStart => exact ⟨0, by omega, rfl, rfl⟩
  case round =>
    obtain ⟨k, hk, rfl, hv⟩ := hrel
    obtain ⟨z, hz⟩ : ∃ z, z = (bs.take k).foldl cstep z0 := ⟨_, rfl⟩
    rw [← hz] at hv
    subst hv
    have Hz := Lib.hid hz
    clear hz
    by_cases hlt : k < bs.length
    · obtain ⟨b, o, ha, _, hc⟩ := hl.addr (by intro h; rw [← ub_length, h] at hlt; simp at hlt)
      have hck := hc k _ (ub_at hlt)
      subst ha
      clear hc hl
      go_wp2_with fail
      refine (step_any z bs[k] _).mono ?_
      rintro e w' ⟨rfl, rfl⟩
      go_wp2
      go_round
      case rel =>
        refine ⟨k + 1, by omega, by go_num, ?_⟩
        rw [List.take_succ_eq_append_getElem hlt, List.foldl_append, ← Hz.out]
        rfl
      case measure => simp [intOf]; omega
    · have : k = bs.length := by omega
      subst this
      have hm := bv_not z
      have Hm := Lib.hid hm
      clear hm hl
      go_wp2
      go_ret
      refine ⟨congrArg (fun x : Int => Ending.returned (.int .u32 x)) (Hm.out.trans ?_), rfl⟩
      rw [more, Hz.out, List.take_length, Hz0.out]
theorem four_any (s : BitVec 32) (w : World) : Calls Try.prog 103 #[.int .u32 s.toNat] w fun e w' => Made w w' 5 1 4 (ub (four s)) False e := by
  go_enter Try.func103, Try.ntmps103
  go_wp2
  go_ret
  refine ⟨⟨_, 4, rfl, ?_, by simp, by simp [ablk]⟩, (Only.refl _ _).alloc _⟩
  have h := Row.of_blk (Blk.new w (ub (four s)).toArray 5) (n := 4) (size := 1) rfl (by simp [maxLen])
  have e : (ub (four s)).toArray = #[Value.int .u8 ((s.toNat : Int) % 256), Value.int .u8 ((s.toNat : Int) / 256 % 256), Value.int .u8 ((s.toNat : Int) / 65536 % 256), Value.int .u8 ((s.toNat : Int) / 16777216)] := by
    have := s.isLt
    simp [ub, four]
    omega
  rw [e] at h
  have e2 : ub (four s) = (ub (four s)).toArray.toList := by simp
  rw [e2, e]
  exact h
end Go.Proofs.Ytchmcjimnliodaa
