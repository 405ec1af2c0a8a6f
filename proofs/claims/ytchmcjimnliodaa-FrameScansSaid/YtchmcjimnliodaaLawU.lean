/- complinelaw03: same, next. -/
import Derived.Test.YtchmcjimnliodaaLawT
namespace Go.Proofs.Ytchmcjimnliodaa
open Go.RowKit
set_option maxRecDepth 100000

theorem str_beq (l k : List UInt8) : (str l == str k) = (l == k) := by
  show ((str l).data == (str k).data) = (l == k)
  simp
theorem same_any (k1 k2 : UInt8) (d1 d2 : List UInt8) (a1 a2 : Option Addr) (c1 c2 : Nat) (w : World) (h1 : Lies w a1 (ub d1)) (h2 : Lies w a2 (ub d2)) :
    Calls Try.prog 17 #[.agg #[.int .u8 k1.toNat, .slice a1 d1.length c1], .agg #[.int .u8 k2.toNat, .slice a2 d2.length c2]] w fun e w' => e = .returned (.bool (k1 == k2 && d1 == d2)) ∧ Pure w w' := by
  obtain ⟨w1, hw1⟩ : ∃ w1, w1 = (w.alloc (.cells #[.int .u8 k1.toNat, .slice a1 d1.length c1] 29)).alloc (.cells #[.int .u8 k2.toNat, .slice a2 d2.length c2] 29) := ⟨_, rfl⟩
  have hb1 : Blk w1 w.heap.size #[.int .u8 k1.toNat, .slice a1 d1.length c1] 29 := by rw [hw1]; exact (Blk.new w _ _).alloc _
  have hb2 : Blk w1 (w.heap.size + 1) #[.int .u8 k2.toNat, .slice a2 d2.length c2] 29 := by rw [hw1]; exact Blk.new' (by simp) _ _
  have hp : Pure w w1 := by rw [hw1]; exact ((Only.refl _ _).alloc _).alloc _
  have hc1 := hb1.cell (i := 0) rfl
  have hc2 := hb1.cell (i := 1) rfl
  have hc3 := hb2.cell (i := 0) rfl
  have hc4 := hb2.cell (i := 1) rfl
  have hv1 := run_conv_string (P := Try.prog) w1 24 9 5 Try.underlying24 Try.underlying5 Try.underlying9 a1 d1.length c1 d1 rfl (h1.pure hp)
  have hv2 := run_conv_string (P := Try.prog) w1 24 9 5 Try.underlying24 Try.underlying5 Try.underlying9 a2 d2.length c2 d2 rfl (h2.pure hp)
  have hq : ((⟨⟨d1⟩⟩ : ByteArray) == ⟨⟨d2⟩⟩) = (d1 == d2) := str_beq d1 d2
  subst hw1
  have hk : (((k1.toNat : Nat) : Int) == ((k2.toNat : Nat) : Int)) = (k1 == k2) := by
    by_cases h : k1 = k2
    · subst h; simp
    · rw [beq_eq_false_iff_ne.2 h, beq_eq_false_iff_ne]
      intro e; exact h (UInt8.toNat_inj.1 (by omega))
  obtain ⟨y, hy⟩ : ∃ y, y = (k1 == k2) := ⟨_, rfl⟩
  rw [← hy] at hk ⊢
  clear hy hq
  go_enter Try.func17, Try.ntmps17
  cases y
  all_goals
    go_wp2_with fail
    go_ret
    exact ⟨by simp [go_sem], hp⟩
end Go.Proofs.Ytchmcjimnliodaa
