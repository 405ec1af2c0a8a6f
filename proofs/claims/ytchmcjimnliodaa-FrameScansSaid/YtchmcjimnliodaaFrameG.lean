/- frame.Next at all bytes; frame.Good. -/
import Derived.Test.YtchmcjimnliodaaFrameN
namespace Go.Proofs.Ytchmcjimnliodaa
open Go.RowKit
set_option maxRecDepth 100000

theorem next_any (s : BitVec 32) (a : Option Addr) (n cap : Nat) (b : List UInt8) (w : World) (hn : b.length = n) (hl : Lies w a (ub b)) (hcap : n ≤ cap) (hcap2 : cap ≤ maxLen) (hlen : n ≤ 1048576) :
    Calls Try.prog 63 #[.int .u32 s.toNat, .slice a n cap] w fun e w' => FNext w w' s b e := by
  subst hn
  cases b with
  | nil => exact next_nil s a cap w
  | cons c t =>
    by_cases hc : c = 197
    · subst hc
      cases t with
      | nil => exact next_one s a cap w hl
      | cons k t =>
        by_cases h2 : cap = 2
        · subst h2
          have ht : t = [] := List.eq_nil_of_length_eq_zero (by simp only [List.length_cons] at hcap; omega)
          subst ht
          exact next_two s a k w hl
        · exact next_more s a cap k t w hl (by simpa using hcap) h2 hcap2 (by have h := hlen; simp only [List.length_cons] at h; omega)
    · exact next_mark s a cap c t w hl hc
theorem good_any (s0 : BitVec 32) (a : Option Addr) (cap : Nat) (b : List UInt8) (w : World) (hl : Lies w a (ub b)) (hcap : b.length ≤ cap) (hcap2 : cap ≤ maxLen) (hlen : b.length ≤ 1048576) :
    Calls Try.prog 19 #[.int .u32 s0.toNat, .slice a b.length cap] w fun e w' => e = .returned (.tuple #[.int .i64 (scan s0 0 b).2.1, .int .u32 (scan s0 0 b).2.2.toNat]) ∧ Pure w w' := by
  go_enter Try.func19, Try.ntmps19
  go_wp2
  go_loopw [0, 6, 7, 8, 9, 10, 11] (fun v i _ _ _ _ _ wr => ∃ (k : Nat) (s : BitVec 32), k ≤ b.length ∧ i = .int .i64 k ∧ v = .int .u32 s.toNat ∧ (scan s k (b.drop k)).2 = (scan s0 0 b).2 ∧ Pure w wr) (fun _ i _ _ _ _ _ _ => b.length - (intOf i).toNat)
  case atStart => exact ⟨0, s0, by omega, rfl, rfl, by simp, Only.refl _ _⟩
  case round =>
    obtain ⟨k, s, hk, rfl, rfl, hsc, hp⟩ := hrel
    have Hsc := Lib.hid hsc
    clear hsc
    by_cases hlt : k < b.length
    · have hne : ¬ cap = k := by omega
      obtain ⟨x, o, rfl, _, _⟩ := hl.addr (by intro h; rw [← ub_length, h] at hlt; simp at hlt)
      have hl' := (hl.pure hp).dropAt k
      rw [← ub_drop] at hl'
      have hnx := next_any s (some ⟨x, o + k, none⟩) (b.length - k) (cap - k) (b.drop k) wr (by simp) hl' (by omega) (by omega) (by omega)
      cases hN : nxt s (b.drop k) with
      | error er =>
        have H := hnx.mono (R' := fun e w' => e = .returned (.tuple #[.agg #[.int .u8 0, .slice none 0 0], .int .i64 0, .int .u32 0, .int .i64 er]) ∧ Pure wr w' ∧ er ≠ 0) (fun e w' h => by
          obtain ⟨h1, h2⟩ := h; rw [hN] at h2; exact ⟨h2, h1, nxt_err_ne hN⟩)
        have HH := Lib.hid H
        have HN := Lib.hid hN
        clear H hN hnx
        go_wp2_with fail
        refine HH.out.mono ?_
        rintro e w1 ⟨rfl, hp1, her⟩
        have hne2 : (er != 0) = true := by simp [her]
        clear her
        go_wp2_with fail
        go_ret2
        have e1 := Hsc.out
        rw [scan_err HN.out] at e1
        rw [← e1]
        exact ⟨rfl, (hp.trans hp1 (fun _ _ h => h)).alloc _⟩
      | ok v =>
        obtain ⟨r, m, s'⟩ := v
        have hm := nxt_len hN
        rw [List.length_drop] at hm
        have H := hnx.mono (R' := fun e w' => ∃ a cap, e = .returned (.tuple #[.agg #[.int .u8 r.k.toNat, .slice a r.d.length cap], .int .i64 m, .int .u32 s'.toNat, .int .i64 0]) ∧ Pure wr w') (fun e w' h => by
          obtain ⟨h1, h2⟩ := h; rw [hN] at h2; obtain ⟨a, c, h3, _⟩ := h2; exact ⟨a, c, h3, h1⟩)
        have HH := Lib.hid H
        have HN := Lib.hid hN
        clear H hN hnx
        go_wp2_with fail
        refine HH.out.mono ?_
        rintro e w1 ⟨a1, c1, rfl, hp1⟩
        go_wp2_with fail
        go_roundw
        case rel =>
          refine ⟨k + m, s', by omega, by go_num, rfl, ?_, (hp.trans hp1 (fun _ _ h => h)).alloc _⟩
          have e1 := Hsc.out
          rw [scan_ok HN.out, List.drop_drop] at e1
          exact e1
        case measure => simp [intOf]; omega
    · have : k = b.length := by omega
      subst this
      have hN : nxt s (b.drop b.length) = .error 4 := by rw [List.drop_length]; rfl
      have H := fun (x : Option Addr) (c : Nat) (hc : c ≤ maxLen) => (next_any s x 0 c [] wr rfl (Lies.nil _ _) (Nat.zero_le _) hc (by omega)).mono (R' := fun e w' => e = .returned (.tuple #[.agg #[.int .u8 0, .slice none 0 0], .int .i64 0, .int .u32 0, .int .i64 4]) ∧ Pure wr w') (fun e w' h => by
          obtain ⟨h1, h2⟩ := h; exact ⟨h2, h1⟩)
      have HH := Lib.hid H
      have HN := Lib.hid hN
      clear H hN hl
      go_wp2_with fail
      all_goals
        refine (HH.out _ _ (by simp only [maxLen] at hcap2 ⊢; omega)).mono ?_
        rintro e w1 ⟨rfl, hp1⟩
        go_wp2_with fail
        go_ret2
        have e1 := Hsc.out
        rw [scan_err HN.out] at e1
        rw [← e1]
        exact ⟨rfl, (hp.trans hp1 (fun _ _ h => h)).alloc _⟩
end Go.Proofs.Ytchmcjimnliodaa
