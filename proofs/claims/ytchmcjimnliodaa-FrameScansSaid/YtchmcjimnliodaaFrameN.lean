/- frame.Next: the record that bytes begin with. -/
import Derived.Test.YtchmcjimnliodaaFrame
namespace Go.Proofs.Ytchmcjimnliodaa
open Go.RowKit
set_option maxRecDepth 100000

/-- What frame.Next gives. -/
def FNext (w w' : World) (s : BitVec 32) (b : List UInt8) (e : Ending) : Prop :=
  Pure w w' ∧ match nxt s b with
    | .error er => e = .returned (.tuple #[.agg #[.int .u8 0, .slice none 0 0], .int .i64 0, .int .u32 0, .int .i64 er])
    | .ok (r, n, s') => ∃ a cap, e = .returned (.tuple #[.agg #[.int .u8 r.k.toNat, .slice a r.d.length cap], .int .i64 n, .int .u32 s'.toNat, .int .i64 0]) ∧ Row w' 5 1 a r.d.length cap (ub r.d) ∧ ∀ k, ablk a = some k → w.heap.size ≤ k
theorem FNext.err {w w' : World} {s : BitVec 32} {b : List UInt8} {er : Int} (hp : Pure w w') (h : nxt s b = .error er) : FNext w w' s b (.returned (.tuple #[.agg #[.int .u8 0, .slice none 0 0], .int .i64 0, .int .u32 0, .int .i64 er])) := by
  refine ⟨hp, ?_⟩; rw [h]
theorem next_nil (s : BitVec 32) (a : Option Addr) (cap : Nat) (w : World) : Calls Try.prog 63 #[.int .u32 s.toNat, .slice a 0 cap] w fun e w' => FNext w w' s [] e := by
  go_enter Try.func63, Try.ntmps63
  go_wp2
  refine bodyPost_ret (v := .tuple #[.agg #[.int .u8 0, .slice none 0 0], .int .i64 0, .int .u32 0, .int .i64 4]) (by simp [results, Try.results63, go_sem]) rfl ?_
  exact FNext.err ((Only.refl _ _).alloc _) rfl
theorem next_mark (s : BitVec 32) (a : Option Addr) (cap : Nat) (c : UInt8) (t : List UInt8) (w : World) (hl : Lies w a (ub (c :: t))) (hc : c ≠ 197) :
    Calls Try.prog 63 #[.int .u32 s.toNat, .slice a (t.length + 1) cap] w fun e w' => FNext w w' s (c :: t) e := by
  obtain ⟨b, o, rfl, hbl, hcell⟩ := hl.addr (by simp [ub])
  have hc0 : w.cell? ⟨b, o, none⟩ = some (.int .u8 c.toNat) := hcell 0 _ rfl
  have hne : ((c.toNat : Int) != 197) = true := by
    rw [bne_iff_ne]; intro h; exact hc (UInt8.toNat_inj.1 (by simpa using (by omega : c.toNat = 197)))
  have Hc := Lib.hid hc
  clear hcell hl hc
  go_enter Try.func63, Try.ntmps63
  go_wp2
  refine bodyPost_ret (v := .tuple #[.agg #[.int .u8 0, .slice none 0 0], .int .i64 0, .int .u32 0, .int .i64 2]) (by simp [results, Try.results63, go_sem]) rfl ?_
  exact FNext.err ((Only.refl _ _).alloc _) (by unfold nxt; exact if_pos Hc.out)
theorem next_one (s : BitVec 32) (a : Option Addr) (cap : Nat) (w : World) (hl : Lies w a (ub [197])) :
    Calls Try.prog 63 #[.int .u32 s.toNat, .slice a 1 cap] w fun e w' => FNext w w' s [197] e := by
  obtain ⟨b, o, rfl, hbl, hcell⟩ := hl.addr (by simp [ub])
  have hc0 : w.cell? ⟨b, o, none⟩ = some (.int .u8 197) := hcell 0 _ rfl
  clear hcell hl
  go_enter Try.func63, Try.ntmps63
  go_wp2
  refine bodyPost_ret (v := .tuple #[.agg #[.int .u8 0, .slice none 0 0], .int .i64 0, .int .u32 0, .int .i64 4]) (by simp [results, Try.results63, go_sem]) rfl ?_
  exact FNext.err ((Only.refl _ _).alloc _) rfl
theorem equal_any2 (a b : Option Addr) (n m ca cb : Nat) (xs ys : List UInt8) (w : World) (hn : xs.length = n) (hm : ys.length = m) (hx : Lies w a (ub xs)) (hy : Lies w b (ub ys)) (hlx : n ≤ 1099511627776) (hly : m ≤ 1099511627776) :
    Calls Try.prog 107 #[.slice a n ca, .slice b m cb] w fun e w' => e = .returned (.bool (xs == ys)) ∧ ∃ n, w' = w.drewN n := by
  subst hn; subst hm; exact equal_any a b ca cb xs ys w hx hy hlx hly
theorem more_any2 (s : BitVec 32) (a : Option Addr) (n cap : Nat) (bs : List UInt8) (w : World) (hn : bs.length = n) (hl : Lies w a (ub bs)) (hlen : n ≤ 1099511627776) :
    Calls Try.prog 60 #[.int .u32 s.toNat, .slice a n cap] w fun e w' => e = .returned (.int .u32 (more s bs).toNat) ∧ w = w' := by
  subst hn; exact more_any s a cap bs w hl hlen
theorem clone_bytes2 (a : Option Addr) (n cap : Nat) (bs : List UInt8) (w : World) (hn : bs.length = n) (hl : Lies w a (ub bs)) (hlen : n ≤ 1099511627776) :
    Calls Try.prog 61 #[.slice a n cap] w fun e w' => Made w w' 5 1 n (ub bs) (a = none) e := by
  subst hn; exact clone_bytes a cap bs w hl hlen
theorem read_any2 (a : Option Addr) (n cap : Nat) (bs : List UInt8) (w : World) (hn : bs.length = n) (hl : Lies w a (ub bs)) (hlen : n ≤ 1099511627776) :
    Calls Try.prog 73 #[.slice a n cap] w fun e w' => ∃ B r, e = .returned (.pointer (some ⟨B, 0, none⟩)) ∧ w.heap.size ≤ B ∧ (∀ k, r = some k → w.heap.size ≤ k) ∧ Rd w' B r ⟨bs, 0⟩ ∧ Pure w w' := by
  subst hn; exact read_any a cap bs w hl hlen
set_option maxHeartbeats 1000000 in
theorem next_two (s : BitVec 32) (a : Option Addr) (k : UInt8) (w : World) (hl : Lies w a (ub [197, k])) :
    Calls Try.prog 63 #[.int .u32 s.toNat, .slice a 2 2] w fun e w' => FNext w w' s [197, k] e := by
  obtain ⟨b, o, rfl, hbl, hcell⟩ := hl.addr (by simp [ub])
  have hc0 : w.cell? ⟨b, o, none⟩ = some (.int .u8 197) := hcell 0 _ rfl
  have hcnt : Rs.count ⟨[], 0⟩ 1024 = (0, ⟨[], 4⟩) := by simp [Rs.count, Rs.num, dec]; omega
  have Hc := Lib.hid hcnt
  clear hcnt hcell hl
  go_enter Try.func63, Try.ntmps63
  go_wp2_with fail
  refine (read_any2 _ 0 0 [] _ rfl (Lies.nil _ _) (by simp)).mono ?_
  rintro e w1 ⟨B, r, rfl, hB, hr, hrd, hp⟩
  go_wp2_with fail
  refine ((count_any 1024 (by decide) (by decide) hrd).mono (R' := fun e w' => e = .returned (.int .i64 0) ∧ RdTo w1 w' B r ⟨[], 4⟩) (fun e w' h => by rw [Hc.out] at h; exact h)).mono ?_
  rintro e w2 ⟨rfl, hto2⟩
  obtain ⟨⟨r2, hr2, hr2'⟩, ho2⟩ := id hto2
  have hb0 : Blk w2 w.heap.size #[.int .u8 0, .slice none 0 0] 29 := ((Blk.new w #[.int .u8 0, .slice none 0 0] 29).only hp id).only ho2 (by simp at hB; omega)
  have hp2 : Pure w w2 := (((Only.refl (fun _ => False) w).alloc _).trans hp (fun _ _ h => h)).trans ho2 (by intro i hi h; simp at hB; omega)
  have h0 := hb0.cell (i := 0) rfl
  have h1 := hb0.cell (i := 1) rfl
  have f0 := hb0.frozen 0
  have f1 := hb0.frozen 1
  go_wp2_with fail
  refine (err_any hr2).mono ?_
  rintro e w' ⟨rfl, rfl⟩
  go_wp2_with fail
  have hbF := (hb0.set 0 (.int .u8 0)).set 1 (.slice none 0 0)
  have hF0 := hbF.cell (i := 0) rfl
  have hF1 := hbF.cell (i := 1) rfl
  refine bodyPost_ret (v := .tuple #[.agg #[.int .u8 0, .slice none 0 0], .int .i64 0, .int .u32 0, .int .i64 4]) (by simp [results, Try.results63, go_sem, hF0, hF1]) rfl ?_
  exact FNext.err ((hp2.setCell (fun h => by simp at h) _).setCell (fun h => by simp at h) _) rfl
set_option maxHeartbeats 2000000 in
theorem next_more (s : BitVec 32) (a : Option Addr) (cap : Nat) (k : UInt8) (t : List UInt8) (w : World) (hl : Lies w a (ub (197 :: k :: t))) (hcap : t.length + 2 ≤ cap) (hc2 : ¬ cap = 2) (_hcap2 : cap ≤ maxLen) (hlen : t.length ≤ 1048576) :
    Calls Try.prog 63 #[.int .u32 s.toNat, .slice a (t.length + 2) cap] w fun e w' => FNext w w' s (197 :: k :: t) e := by
  have hdrop := hl.drop 2
  rw [← ub_drop] at hdrop
  obtain ⟨b, o, rfl, hbl, hcell⟩ := hl.addr (by simp [ub])
  have hc0 : w.cell? ⟨b, o, none⟩ = some (.int .u8 197) := hcell 0 _ rfl
  have hc1 : w.cell? ⟨b, o + 1, none⟩ = some (.int .u8 k.toNat) := hcell 1 _ rfl
  have hl2 : Lies w (some ⟨b, o + 2, none⟩) (ub t) := by simpa [Addr.add] using hdrop
  obtain ⟨n, hn⟩ : ∃ n, n = (Rs.count ⟨t, 0⟩ 1024).1 := ⟨_, rfl⟩
  obtain ⟨R, hR⟩ : ∃ R, R = (Rs.count ⟨t, 0⟩ 1024).2 := ⟨_, rfl⟩
  have Hn := Lib.hid hn
  have HR := Lib.hid hR
  have hRl : R.left ≤ t.length := by
    rw [hR]; exact Nat.le_trans (left_le _) (count_len _ _)
  have hn1024 : n ≤ 1024 := by
    have := count_le ⟨t, 0⟩ (m := 1024) (by decide)
    omega
  obtain ⟨L, hL⟩ : ∃ L, L = R.left := ⟨_, rfl⟩
  rw [← hL] at hRl
  have HL := Lib.hid hL
  clear hcell hdrop hn hR hL
  go_enter Try.func63, Try.ntmps63
  go_wp2_with fail
  refine (read_any2 (some ⟨b, o + 2, none⟩) t.length (cap - 2) t _ rfl (hl2.alloc _) (by omega)).mono ?_
  rintro e w1 ⟨B, r, rfl, hB, hr, hrd, hp⟩
  go_wp2_with fail
  refine ((count_any 1024 (by decide) (by decide) hrd).mono (R' := fun e w' => e = .returned (.int .i64 n) ∧ RdTo w1 w' B r R) (fun e w' h => by rw [Hn.out, HR.out]; exact h)).mono ?_
  rintro e w2 ⟨rfl, hto2⟩
  obtain ⟨⟨r2, hr2, hr2'⟩, ho2⟩ := id hto2
  have hb0 : Blk w2 w.heap.size #[.int .u8 0, .slice none 0 0] 29 := ((Blk.new w #[.int .u8 0, .slice none 0 0] 29).only hp id).only ho2 (by simp at hB; omega)
  have hp2 : Pure w w2 := (((Only.refl (fun _ => False) w).alloc _).trans hp (fun _ _ h => h)).trans ho2 (by intro i hi h; simp at hB; omega)
  have h0 := hb0.cell (i := 0) rfl
  have h1 := hb0.cell (i := 1) rfl
  have f0 := hb0.frozen 0
  have f1 := hb0.frozen 1
  go_wp2_with fail
  refine (err_any hr2).mono ?_
  rintro e w' ⟨rfl, rfl⟩
  by_cases he : R.e = 0
  · have he' : (R.e != 0) = false := by simp [he]
    have He := Lib.hid he
    clear he
    obtain ⟨F, hF⟩ : ∃ F : Nat, (t.length : Int) + 2 - (L : Int) = (F : Int) := ⟨t.length + 2 - L, by omega⟩
    have hF2 : F ≤ 1048578 := by omega
    go_wp2_with fail
    refine ((left_any hr2).mono (R' := fun e w' => e = .returned (.int .i64 L) ∧ w2 = w') (fun e w' h => by rw [HL.out]; exact h)).mono ?_
    rintro e w' ⟨rfl, rfl⟩
    go_wp2_with fail
    refine ((left_any hr2).mono (R' := fun e w' => e = .returned (.int .i64 L) ∧ w2 = w') (fun e w' h => by rw [HL.out]; exact h)).mono ?_
    rintro e w' ⟨rfl, rfl⟩
    by_cases hs : L < n + 4
    · have hs' : (L : Int) < (n : Int) + 4 := by omega
      go_wp2_with fail
      have hbF := (hb0.set 0 (.int .u8 0)).set 1 (.slice none 0 0)
      have hF0 := hbF.cell (i := 0) rfl
      have hF1 := hbF.cell (i := 1) rfl
      refine bodyPost_ret (v := .tuple #[.agg #[.int .u8 0, .slice none 0 0], .int .i64 0, .int .u32 0, .int .i64 4]) (by simp [results, Try.results63, go_sem, hF0, hF1]) rfl ?_
      refine FNext.err ((hp2.setCell (fun h => by simp at h) _).setCell (fun h => by simp at h) _) ?_
      unfold nxt
      simp only [← HR.out, ← Hn.out, ← HL.out, He.out]
      simp [hs]
    · have hs' : ¬ (L : Int) < (n : Int) + 4 := by omega
      have b1 : F + n ≤ cap := by omega
      have b2 : F + n + 4 ≤ cap := by omega
      have hlen2 : (197 :: k :: t).length = t.length + 2 := rfl
      have h0w : w.heap.size ≤ w2.heap.size := hp2.size
      have hl' : Lies w2 (some ⟨b, o, none⟩) (ub (197 :: k :: t)) := hl.pure hp2
      obtain ⟨s', hs1⟩ : ∃ s', s' = more s ((197 :: k :: t).take (F + n)) := ⟨_, rfl⟩
      have Hs1 := Lib.hid hs1
      clear hs1
      obtain ⟨y4, hy4⟩ : ∃ y4, y4 = ((197 :: k :: t).drop (F + n)).take 4 := ⟨_, rfl⟩
      have hy4l : y4.length = 4 := by rw [hy4]; simp; omega
      have hl4 : Lies w2 (some ⟨b, o + (F + n), none⟩) (ub y4) := by
        have h := (hl'.drop (F + n)).take 4
        rw [← ub_drop, ← ub_take, ← hy4] at h
        rcases Nat.eq_zero_or_pos (F + n) with h0 | h0
        · omega
        · simpa [Addr.add, Nat.pos_iff_ne_zero.1 h0, show ¬ (F = 0 ∧ n = 0) by omega] using h
      have Hy4 := Lib.hid hy4
      clear hy4
      have HM := Lib.hid ((more_any2 s (some ⟨b, o, none⟩) (F + n) cap ((197 :: k :: t).take (F + n)) w2 (by simp; omega) (by rw [ub_take]; exact hl'.take _) (by omega)).mono (R' := fun e w' => e = .returned (.int .u32 s'.toNat) ∧ w2 = w') (fun e w' h => by rw [Hs1.out]; exact h))
      go_wp2_with fail
      refine HM.out.mono ?_
      rintro e w' ⟨rfl, rfl⟩
      go_wp2_with fail
      clear HM
      obtain ⟨nb, hnb⟩ : ∃ nb, nb = !(four s' == y4) := ⟨_, rfl⟩
      have Hnb := Lib.hid hnb
      clear hnb
      go_cut [67] (fun s67 wx => s67 = .bool nb ∧ Pure w2 wx)
      case first =>
        have q1 : (0 : Int) ≤ (F : Int) + (n : Int) := by omega
        have q2 : (F : Int) + (n : Int) ≤ (F : Int) + (n : Int) + 4 := by omega
        have q3 : (F : Int) + (n : Int) + 4 ≤ (cap : Int) := by omega
        have q4 : ¬ cap = F + n := by omega
        have t1 : ((F : Int) + (n : Int)).toNat = F + n := by omega
        have t2 : ((F : Int) + (n : Int) + 4).toNat = F + n + 4 := by omega
        have t3 : F + n + 4 - (F + n) = 4 := by omega
        have t4 : ¬ (F = 0 ∧ n = 0) := by omega
        have s1 : IntKind.i64.wrap ((F : Int) + (n : Int)) = (F : Int) + (n : Int) := IntWalk.i64_in _ (by omega)
        have s2 : IntKind.i64.wrap ((F : Int) + (n : Int) + 4) = (F : Int) + (n : Int) + 4 := IntWalk.i64_in _ (by omega)
        clear hcap hlen hRl hn1024 hF hF2 b1 b2 hs' hlen2 hp hp2 hb0 h0 h1 f0 f1 he' hl hl' hl2
        go_region_with (first
          | (go_at_call 103; refine (four_any s' _).mono ?_; rintro e w3 ⟨⟨a3, cap3, rfl, hrow3, hz3, hf3⟩, ho3⟩)
          | (go_at_call 107; refine (equal_any2 _ _ 4 4 _ _ (four s') y4 _ rfl hy4l (by exact hrow3.lies) (by exact hl4.drew.pure ho3) (by decide) (by decide)).mono ?_; rintro e w3 ⟨rfl, m, rfl⟩))
        all_goals (go_wp2_with fail; go_meet; exact ⟨by rw [Hnb.out], ((Only.refl (fun _ => False) w2).drew.trans ho3 (fun _ _ h => h)).drewN _⟩)
      case rest =>
        obtain ⟨rfl, hpc⟩ := hcut
        have hbc := hb0.only hpc id
        have hc0' := hbc.cell (i := 0) rfl
        have hc1' := hbc.cell (i := 1) rfl
        have fc0 := hbc.frozen 0
        have fc1 := hbc.frozen 1
        have hpw : Pure w wc := hp2.trans hpc (fun _ _ h => h)
        clear h0 h1 f0 f1
        cases nb with
        | false =>
          have hq : four s' = y4 := by
            have := Hnb.out; simpa using this
          have hk1 : wc.cell? ⟨b, o + 1, none⟩ = some (.int .u8 k.toNat) := hpw.cell hc1 id
          have hlw : Lies wc (some ⟨b, o, none⟩) (ub (197 :: k :: t)) := hl'.pure hpc
          have Hq := Lib.hid hq
          clear hq
          obtain ⟨d, hd⟩ : ∃ d, d = ((197 :: k :: t).drop F).take n := ⟨_, rfl⟩
          have hdl : d.length = n := by rw [hd]; simp; omega
          have hF0 : 0 < F := by omega
          have hld : Lies wc (some ⟨b, o + F, none⟩) (ub d) := by
            have h := (hlw.drop F).take n
            rw [← ub_drop, ← ub_take, ← hd] at h
            simpa [Addr.add, Nat.pos_iff_ne_zero.1 hF0] using h
          have Hd := Lib.hid hd
          have Hdl := Lib.hid hdl
          clear hd hdl
          go_wp2_with fail
          have q0 : (0 : Int) ≤ (F : Int) := by omega
          have q1 : (F : Int) ≤ (F : Int) + (n : Int) := by omega
          have q3 : (F : Int) + (n : Int) ≤ (cap : Int) := by omega
          have q4 : ¬ cap = F := by omega
          have q5 : ¬ F = 0 := by omega
          have q6 : (1 : Int) < (t.length : Int) + 2 := by omega
          have t1 : ((F : Int) + (n : Int)).toNat = F + n := by omega
          have t3 : F + n - F = n := by omega
          have s1 : IntKind.i64.wrap ((F : Int) + (n : Int)) = (F : Int) + (n : Int) := IntWalk.i64_in _ (by omega)
          have s2 : IntKind.i64.wrap ((F : Int) + (n : Int) + 4) = (F : Int) + (n : Int) + 4 := IntWalk.i64_in _ (by omega)
          have HF2 := Lib.hid (show (t.length : Int) + 2 - (L : Int) = F from hF)
          have HLe := Lib.hid hRl
          clear hcap hlen hRl hF hF2 b1 b2 hs' hlen2 hp hp2 hb0 he' hl hl' hl2 hc0 hc1
          go_region_with (first
            | (go_at_call 61; refine (clone_bytes2 (some ⟨b, o + F, none⟩) n (cap - F) d _ Hdl.out (by exact hld.drew) (by omega)).mono ?_; rintro e w3 ⟨⟨a3, cap3, rfl, hrow3, hz3, hf3⟩, ho3⟩; have hb3 := hbc.drew.only ho3 id; have g0 := hb3.cell (i := 0) rfl; have g1 := hb3.cell (i := 1) rfl; have g2 := hb3.frozen 0; have g3 := hb3.frozen 1; have gk := ho3.cell (a := ⟨b, o + 1, none⟩) (v := .int .u8 k.toNat) hk1 id))
          all_goals
            go_wp2_with fail
            have hbF := (hb3.set 0 (.int .u8 k.toNat)).set 1 (.slice a3 n cap3)
            have hG0 := hbF.cell (i := 0) rfl
            have hG1 := hbF.cell (i := 1) rfl
            have hne3 := hrow3.ne_blk hb3 (by decide)
            have hrow4 := (hrow3.setCell (p := ⟨w.heap.size, 0, none⟩) hne3 (.int .u8 k.toNat)).setCell (p := ⟨w.heap.size, 1, none⟩) hne3 (.slice a3 n cap3)
            have hp4 : Pure w ((w3.setCell ⟨w.heap.size, 0, none⟩ (.int .u8 k.toNat)).setCell ⟨w.heap.size, 1, none⟩ (.slice a3 n cap3)) :=
              ((hpw.drew.trans ho3 (fun _ _ h => h)).setCell (fun h => by simp at h) _).setCell (fun h => by simp at h) _
            have hfr : ∀ x, ablk a3 = some x → w.heap.size ≤ x := fun x hx => Nat.le_trans hpw.size (hf3 x hx)
            have e1 : (197 :: k :: t).length - L = F := by
              have := HF2.out; have := HLe.out; simp; omega
            have hN : nxt s (197 :: k :: t) = .ok (⟨k, d⟩, F + n + 4, s') := by
              unfold nxt
              simp only [← HR.out, ← Hn.out, ← HL.out, He.out, e1, ← Hs1.out, ← Hy4.out, ← Hd.out, ← Hq.out]
              simp [hs]
            refine bodyPost_ret (v := .tuple #[.agg #[.int .u8 k.toNat, .slice a3 n cap3], .int .i64 (F + n + 4 : Nat), .int .u32 s'.toNat, .int .i64 0]) (by simp [results, Try.results63, go_sem, hG0, hG1]) rfl ?_
            refine ⟨hp4, ?_⟩
            rw [hN]
            have := Hdl.out
            subst this
            exact ⟨a3, cap3, rfl, hrow4, hfr⟩
        | true =>
          have hq : ¬ four s' = y4 := by
            have := Hnb.out; simpa using this
          have Hq := Lib.hid hq
          clear hq
          go_wp2_with fail
          have hbF := (hbc.set 0 (.int .u8 0)).set 1 (.slice none 0 0)
          have hF0 := hbF.cell (i := 0) rfl
          have hF1 := hbF.cell (i := 1) rfl
          refine bodyPost_ret (v := .tuple #[.agg #[.int .u8 0, .slice none 0 0], .int .i64 0, .int .u32 0, .int .i64 5]) (by simp [results, Try.results63, go_sem, hF0, hF1]) rfl ?_
          refine FNext.err ((hpw.setCell (fun h => by simp at h) _).setCell (fun h => by simp at h) _) ?_
          have e1 : (197 :: k :: t).length - L = F := by simp; omega
          unfold nxt
          simp only [← HR.out, ← Hn.out, ← HL.out, He.out, e1, ← Hs1.out, ← Hy4.out]
          simp [hs, Hq.out]
  · have he' : (R.e != 0) = true := by simp [he]
    have He := Lib.hid he
    clear he
    go_wp2_with fail
    have hbF := (hb0.set 0 (.int .u8 0)).set 1 (.slice none 0 0)
    have hF0 := hbF.cell (i := 0) rfl
    have hF1 := hbF.cell (i := 1) rfl
    refine bodyPost_ret (v := .tuple #[.agg #[.int .u8 0, .slice none 0 0], .int .i64 0, .int .u32 0, .int .i64 R.e]) (by simp [results, Try.results63, go_sem, hF0, hF1]) rfl ?_
    refine FNext.err ((hp2.setCell (fun h => by simp at h) _).setCell (fun h => by simp at h) _) ?_
    unfold nxt
    simp only [← HR.out]
    simp [He.out]
end Go.Proofs.Ytchmcjimnliodaa
