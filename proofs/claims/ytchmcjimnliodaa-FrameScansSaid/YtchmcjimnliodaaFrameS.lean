/- frame.Scan: the iterator over a chain's records. -/
import Derived.Test.YtchmcjimnliodaaFrameG
import Derived.Test.YtchmcjimnliodaaSq
import Derived.RangeFuncNested
import Derived.RangeFuncBound
import Derived.RangeFuncCalls
import Derived.RangeFuncLeaves
import Derived.Shelf.Abstract
import Derived.Shelf.RegionOpen
import Derived.OwnWalkIn
import Derived.TacticsInMore
import Derived.LoopNIn
import Derived.LoopIn
namespace Go.Proofs.Ytchmcjimnliodaa
open Go.RowKit
set_option maxRecDepth 100000
attribute [local go_sem] Oper.semAt_some

/-- What Scan hands out: where a record begins, the record, and where its bytes lie. -/
structure ScanIt where
  at_ : Nat
  r : Rec
  a : Option Addr
  cap : Nat
def ScanIt.strip (x : ScanIt) : Nat × Rec := (x.at_, x.r)
def ScanIt.enc (x : ScanIt) : Array Value := #[.int .i64 x.at_, .agg #[.int .u8 x.r.k.toNat, .slice x.a x.r.d.length x.cap]]
/-- What Scan has kept: the sum, and its own copy of the bytes. -/
def ScanEnv (W : World) (s0 : BitVec 32) (b : List UInt8) (B1 B2 : Nat) (a : Option Addr) (cap : Nat) : Prop :=
  Blk W B1 #[.int .u32 s0.toNat] 22 ∧ Blk W B2 #[.slice a b.length cap] 24 ∧ Row W 5 1 a b.length cap (ub b)
def scanT (B1 B2 : Nat) (a : Option Addr) : Nat → Prop := fun k => k = B1 ∨ k = B2 ∨ ablk a = some k
def scanPin (s0 : BitVec 32) (b : List UInt8) (base : Nat) (pre : List ScanIt) (x : ScanIt) (W : World) : Prop :=
  Row W 5 1 x.a x.r.d.length x.cap (ub x.r.d) ∧ (∀ k, ablk x.a = some k → base ≤ k) ∧ (pre ++ [x]).map ScanIt.strip <+: (scan s0 0 b).1 ∧ x.r.d.length ≤ 1024
theorem ScanEnv.keep {W W' : World} {s0 : BitVec 32} {b : List UInt8} {B1 B2 : Nat} {a : Option Addr} {cap : Nat} (h : ScanEnv W s0 b B1 B2 a cap) (hk : KeepT (scanT B1 B2 a) W W') : ScanEnv W' s0 b B1 B2 a cap :=
  ⟨(hk.same B1 (.inl rfl)).trans h.1, (hk.same B2 (.inr (.inl rfl))).trans h.2.1, h.2.2.keep fun k hb _ => hk.same k (.inr (.inr hb))⟩
theorem ScanEnv.pure {W W' : World} {s0 : BitVec 32} {b : List UInt8} {B1 B2 : Nat} {a : Option Addr} {cap : Nat} (h : ScanEnv W s0 b B1 B2 a cap) (hp : Pure W W') : ScanEnv W' s0 b B1 B2 a cap :=
  ⟨h.1.only hp id, h.2.1.only hp id, h.2.2.only hp (fun _ _ => id)⟩
set_option maxHeartbeats 1000000 in
theorem scan1_sq (n : Nat) (s0 : BitVec 32) (b : List UInt8) (B1 B2 : Nat) (a : Option Addr) (cap : Nat) (W : World) (he : ScanEnv W s0 b B1 B2 a cap) (hlen : b.length ≤ 1048576) :
    SqAt n Try.prog 62 #[.pointer (some ⟨B1, 0, none⟩), .pointer (some ⟨B2, 0, none⟩)] ScanIt.enc (scanT B1 B2 a) (scanPin s0 b W.heap.size) (fun xs => xs.map ScanIt.strip = (scan s0 0 b).1) (fun pre => pre.map ScanIt.strip <+: (scan s0 0 b).1) W := by
  intro l J Jx hJ hJx hY h0
  obtain ⟨hb1, hb2, hrow⟩ := id he
  have hc1 := hb1.cell (i := 0) rfl
  have hc2 := hb2.cell (i := 0) rfl
  refine callsIn_of_wp Try.func62 rfl trivial ?_ rfl
  simp only [Try.ntmps62, List.size_toArray, List.length_cons, List.length_nil, Nat.reduceAdd, Nat.reduceSub, Array.replicate_succ, Array.replicate_zero, List.push_toArray, List.append_toArray, List.nil_append, List.cons_append]
  gi_wp2
  gi_loopw [4, 5, 6, 7, 8, 9] (fun v i _ _ _ _ wr => ∃ (k : Nat) (s : BitVec 32) (pre : List ScanIt), k ≤ b.length ∧ i = .int .i64 k ∧ v = .int .u32 s.toNat ∧
      pre.map ScanIt.strip ++ (scan s k (b.drop k)).1 = (scan s0 0 b).1 ∧ J pre wr ∧ ScanEnv wr s0 b B1 B2 a cap ∧ W.heap.size ≤ wr.heap.size) (fun _ i _ _ _ _ _ => b.length - (intOf i).toNat)
  case atStart => exact ⟨0, s0, [], by omega, rfl, rfl, by simp, h0, he, Nat.le_refl _⟩
  case round =>
    obtain ⟨k, s, pre, hk, rfl, rfl, hsc, hj, henv, hsz⟩ := hrel
    have Hsc := Lib.hid hsc
    clear hsc
    obtain ⟨hbr1, hbr2, hrowr⟩ := id henv
    have hcr2 := hbr2.cell (i := 0) rfl
    by_cases hlt : k < b.length
    · have hcap := hrowr.2.1
      have hne : ¬ cap = k := by omega
      obtain ⟨x, o, rfl, _, _⟩ := hrowr.lies.addr (by intro h; rw [← ub_length, h] at hlt; simp at hlt)
      have hl' := hrowr.lies.dropAt k
      rw [← ub_drop] at hl'
      have hcm := hrowr.2.2.1
      have hnx := next_any s (some ⟨x, o + k, none⟩) (b.length - k) (cap - k) (b.drop k) wr (by simp) hl' (by omega) (by omega) (by omega)
      cases hN : nxt s (b.drop k) with
      | error er =>
        have H := hnx.mono (R' := fun e w' => e = .returned (.tuple #[.agg #[.int .u8 0, .slice none 0 0], .int .i64 0, .int .u32 0, .int .i64 er]) ∧ Pure wr w' ∧ er ≠ 0) (fun e w' h => by
          obtain ⟨h1, h2⟩ := h; rw [hN] at h2; exact ⟨h2, h1, nxt_err_ne hN⟩)
        have HH := Lib.hid H
        have HN := Lib.hid hN
        clear H hN hnx
        gi_wp2_with fail
        refine wideCall (HH.out.mono ?_)
        rintro e w1 ⟨rfl, hp1, her⟩
        have hne2 : (er != 0) = true := by simp [her]
        clear her
        gi_wp2_with fail
        refine ⟨fun _ h => (by cases h), ?_⟩
        gi_wp2_with fail
        refine bodyPost_ret (results_none rfl _ _ _) rfl ?_
        refine ⟨⟨_, rfl⟩, .inl ⟨pre, ?_, hJ _ _ _ none hj (Only.grownBy (hp1.alloc _)) (fun r h => by cases h)⟩⟩
        have e1 := Hsc.out
        rw [scan_err HN.out] at e1
        rw [← e1]; simp
      | ok v =>
        obtain ⟨r, m, s'⟩ := v
        have hm := nxt_len hN
        rw [List.length_drop] at hm
        have H := hnx.mono (R' := fun e w' => ∃ a cap, e = .returned (.tuple #[.agg #[.int .u8 r.k.toNat, .slice a r.d.length cap], .int .i64 m, .int .u32 s'.toNat, .int .i64 0]) ∧ Pure wr w' ∧ Row w' 5 1 a r.d.length cap (ub r.d) ∧ ∀ k, ablk a = some k → wr.heap.size ≤ k) (fun e w' h => by
          obtain ⟨h1, h2⟩ := h; rw [hN] at h2; obtain ⟨a, c, h3, h4, h5⟩ := h2; exact ⟨a, c, h3, h1, h4, h5⟩)
        have HH := Lib.hid H
        have HN := Lib.hid hN
        clear H hN hnx
        gi_wp2_with fail
        refine wideCall (HH.out.mono ?_)
        rintro e w1 ⟨a1, c1, rfl, hp1, hrow1, hfr1⟩
        have hpre : (pre ++ [(⟨k, r, a1, c1⟩ : ScanIt)]).map ScanIt.strip ++ (scan s' (k + m) (b.drop (k + m))).1 = (scan s0 0 b).1 := by
          have e1 := Hsc.out
          rw [scan_ok HN.out, List.drop_drop] at e1
          rw [← e1]; simp [ScanIt.strip]
        have Hpre := Lib.hid hpre
        clear hpre
        have hj1 : J pre (w1.alloc (.cells #[.int .u8 r.k.toNat, .slice a1 r.d.length c1] 29)) := hJ _ _ _ none hj (Only.grownBy (hp1.alloc _)) (fun r h => by cases h)
        obtain ⟨fn, tmps, assign, body, hy, hR⟩ := hY pre ⟨k, r, a1, c1⟩ _ hj1 ⟨hrow1.alloc _, fun x hx => Nat.le_trans hsz (hfr1 x hx), by rw [← Hpre.out]; exact List.prefix_append _ _, hm.2.2⟩
        simp only [ScanIt.enc] at hy
        gi_wp2_with fail
        refine ⟨fun hd => by simp [Fence.wide] at hd, hR.mono ?_⟩
        have henv1 : ScanEnv (w1.alloc (.cells #[.int .u8 r.k.toNat, .slice a1 r.d.length c1] 29)) s0 b B1 B2 (some ⟨x, o, none⟩) cap := henv.pure (hp1.alloc _)
        rintro e W3 (⟨rfl, hj3, hk3⟩ | ⟨rfl, hjx⟩)
        · gi_wp2_with fail
          go_roundw
          case rel =>
            refine ⟨k + m, s', pre ++ [⟨k, r, a1, c1⟩], by omega, by go_num, rfl, Hpre.out, hj3, henv1.keep hk3, ?_⟩
            have h1 := hp1.size
            have h2 := hk3.size
            simp at h2
            omega
          case measure => simp [intOf]; omega
        · gi_wp2_with fail
          refine bodyPost_ret (results_none rfl _ _ _) rfl ?_
          exact ⟨⟨_, rfl⟩, .inr ⟨_, by rw [← Hpre.out]; exact List.prefix_append _ _, hjx⟩⟩
    · have : k = b.length := by omega
      subst this
      have e1 : scan s b.length (b.drop b.length) = ([], b.length, s) := by rw [List.drop_length]; exact scan_err rfl
      have He1 := Lib.hid e1
      clear e1
      gi_wp2_with fail
      go_end0
      refine ⟨⟨_, rfl⟩, .inl ⟨pre, ?_, hj⟩⟩
      rw [← Hsc.out, He1.out]; simp
theorem scan_any (s0 : BitVec 32) (a : Option Addr) (cap : Nat) (b : List UInt8) (w : World) (hl : Lies w a (ub b)) (hlen : b.length ≤ 1048576) :
    Calls Try.prog 16 #[.int .u32 s0.toNat, .slice a b.length cap] w fun e w' => ∃ B1 B2 a' cap', e = .returned (.func (.func 62) #[] #[.pointer (some ⟨B1, 0, none⟩), .pointer (some ⟨B2, 0, none⟩)]) ∧
      ScanEnv w' s0 b B1 B2 a' cap' ∧ (∀ k, scanT B1 B2 a' k → w.heap.size ≤ k ∧ k < w'.heap.size) ∧ Pure w w' := by
  have hb := Blk.new w #[.int .u32 s0.toNat] 22
  go_enter Try.func16, Try.ntmps16
  go_wp2_with fail
  refine (clone_bytes a cap b _ (hl.alloc _) (by omega)).mono ?_
  rintro e w1 ⟨⟨a1, c1, rfl, hrow1, hz1, hf1⟩, hp1⟩
  go_wp2_with fail
  go_ret
  have hs := hp1.size
  simp at hs
  refine ⟨w.heap.size, w1.heap.size, a1, c1, rfl, ⟨(hb.only hp1 id).alloc _, Blk.new w1 _ _, hrow1.alloc _⟩, ?_, (((Only.refl (fun _ => False) w).alloc _).trans hp1 (fun _ _ h => h)).alloc _⟩
  rintro k (rfl | rfl | hk)
  · simp; omega
  · simp; omega
  · have h1 := hf1 k hk
    have h2 := hrow1.lt k hk
    simp at h1 ⊢; omega
end Go.Proofs.Ytchmcjimnliodaa
