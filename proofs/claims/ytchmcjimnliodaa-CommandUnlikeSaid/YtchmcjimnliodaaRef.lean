/- The document's octets (complineref01): Num, Text, Read. -/
import Derived.Test.YtchmcjimnliodaaFrame
import Derived.Test.YtchmcjimnliodaaOctR
import Derived.Laws.Concat
namespace Go.Proofs.Ytchmcjimnliodaa
open Go.RowKit
set_option maxRecDepth 100000

/-- Bytes as a text. -/
abbrev str (l : List UInt8) : ByteArray := ⟨⟨l⟩⟩
theorem str_append (l k : List UInt8) : str l ++ str k = str (l ++ k) := by
  apply ByteArray.ext
  simp [str]
theorem str_size (l : List UInt8) : (str l).size = l.length := rfl
set_option maxHeartbeats 400000 in
theorem refnum_any (x : Nat) (hx : x < 18446744073709551616) : ∀ w : World, Calls Try.prog 20 #[.int .u64 x] w fun e w' => e = .returned (.string (str (num x))) ∧ Pure w w' := by
  induction x using Nat.strongRecOn with
  | ind x ih =>
  intro w
  have Hx := Lib.hid hx
  have Ih := Lib.hid ih
  clear hx ih
  by_cases h : x < 128
  · have h' : (x : Int) < 128 := by omega
    have hlow : (x : Int) = ((UInt8.ofNat x).toNat : Int) := by rw [toNat_small (by omega)]
    have hcv := run_conv_string (P := Try.prog) (w.alloc (.cells #[.int .u8 x] 5)) 24 9 5 Try.underlying24 Try.underlying5 Try.underlying9 (some ⟨w.heap.size, 0, none⟩) 1 1 [UInt8.ofNat x] rfl (by rw [hlow]; exact lies_new1 _ _ _)
    have Hlow := Lib.hid hlow
    clear hlow
    go_enter Try.func20, Try.ntmps20
    go_wp2
    go_ret
    refine ⟨by rw [num_small h]; rfl, (Only.refl _ _).alloc _⟩
  · have h' : ¬ (x : Int) < 128 := by omega
    have hy : ((x % 128 + 128 : Nat) : Int) = ((UInt8.ofNat (x % 128 + 128)).toNat : Int) := by rw [toNat_small (by omega)]
    have hrec := Ih.out (x / 128) (by omega) (by have := Hx.out; omega)
    have e0 : (x : Int).tmod 128 = (x : Int) % 128 := Int.tmod_eq_emod_of_nonneg (by omega)
    have e1 : IntKind.u64.wrap ((x : Int) % 128 + 128) = ((x % 128 + 128 : Nat) : Int) := IntWalk.u64_in _ (by omega)
    have e2 : IntKind.u8.wrap ((x % 128 + 128 : Nat) : Int) = ((x % 128 + 128 : Nat) : Int) := IntWalk.u8_in _ (by omega)
    have e3 : IntKind.u64.wrap ((x : Int) / 128) = ((x / 128 : Nat) : Int) := IntWalk.u64_in _ (by have := Hx.out; omega)
    have e4 := e1.trans e1.symm
    obtain ⟨y, hyy⟩ : ∃ y : Nat, y = x % 128 + 128 := ⟨_, rfl⟩
    rw [← hyy] at e1 e2 hy
    have hll := fun w : World => show Lies (w.alloc (.cells #[.int .u8 ((y : Nat) : Int)] 5)) (some ⟨w.heap.size, 0, none⟩) (ub [UInt8.ofNat y]) by rw [hy]; exact lies_new1 _ _ _
    have hcv := fun w : World => run_conv_string (P := Try.prog) (w.alloc (.cells #[.int .u8 ((y : Nat) : Int)] 5)).drew 24 9 5 Try.underlying24 Try.underlying5 Try.underlying9 (some ⟨w.heap.size, 0, none⟩) 1 1 [UInt8.ofNat y] rfl (hll w).drew
    have hcv2 := fun w : World => run_conv_string (P := Try.prog) (w.alloc (.cells #[.int .u8 ((y : Nat) : Int)] 5)) 24 9 5 Try.underlying24 Try.underlying5 Try.underlying9 (some ⟨w.heap.size, 0, none⟩) 1 1 [UInt8.ofNat y] rfl (hll w)
    have hadd := fun w : World => (run_string_add_sum (P := Try.prog) (w := w) (str [UInt8.ofNat y]) (str (num (x / 128))) (by
      have h1 := num_length10 (x := x / 128) (by have := Hx.out; omega)
      rw [str_size, str_size]; simp; omega)).trans (by rw [str_append, show [UInt8.ofNat y] ++ num (x / 128) = num x by rw [num_big h, hyy]; rfl])
    have hadd := fun w : World => show (Op.stringOp .add ⟨⟨[UInt8.ofNat y]⟩⟩ (str (num (x / 128)))).run Try.prog w = .ok (.string (str (num x))) w from hadd w
    have Hy := Lib.hid hy
    have Hrec := Lib.hid hrec
    have Hyy := Lib.hid hyy
    have Hll := Lib.hid hll
    clear hy hrec e4 hyy hll
    go_enter Try.func20, Try.ntmps20
    go_wp2_with fail
    go_region_with (first
      | (go_at_call 20; refine (show Calls Try.prog 20 #[.int .u64 ((x / 128 : Nat) : Int)] _ _ from Hrec.out _).mono ?_; rintro e w2 ⟨rfl, hp⟩
         try have hcv3 := run_conv_string (P := Try.prog) w2 24 9 5 Try.underlying24 Try.underlying5 Try.underlying9 (some ⟨w.heap.size, 0, none⟩) 1 1 [UInt8.ofNat y] rfl ((Hll.out w).drew.pure hp)))
    all_goals (go_wp2; go_ret; refine ⟨rfl, ?_⟩; first
      | exact ((Only.refl _ _).alloc _).drew.trans hp (fun _ _ h => h)
      | exact ((Only.refl (fun _ => False) w).drew.trans hp (fun _ _ h => h)).alloc _)
theorem reftext_any (bs : List UInt8) (w : World) (hlen : bs.length ≤ 1048576) : Calls Try.prog 59 #[.string (str bs)] w fun e w' => e = .returned (.string (str (num bs.length ++ bs))) ∧ Pure w w' := by
  have hn := num_length10 (x := bs.length) (by omega)
  have hadd := fun w : World => (run_string_add_sum (P := Try.prog) (w := w) (str (num bs.length)) (str bs) (by rw [str_size, str_size]; omega)).trans (by rw [str_append])
  have hz := str_size bs
  have hs : IntKind.u64.wrap (bs.length : Int) = (bs.length : Int) := IntWalk.u64_in _ (by omega)
  go_enter Try.func59, Try.ntmps59
  go_wp2_with fail
  refine (show Calls Try.prog 20 #[.int .u64 (bs.length : Nat)] _ _ from refnum_any bs.length (by omega) _).mono ?_
  rintro e w2 ⟨rfl, hp⟩
  go_wp2
  go_ret
  exact ⟨rfl, hp⟩
end Go.Proofs.Ytchmcjimnliodaa
