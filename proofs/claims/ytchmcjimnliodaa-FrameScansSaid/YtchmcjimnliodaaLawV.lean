/- complinelaw03: next. -/
import Derived.Test.YtchmcjimnliodaaLawU
import Derived.Test.YtchmcjimnliodaaFrameQ
namespace Go.Proofs.Ytchmcjimnliodaa
open Go.RowKit
set_option maxRecDepth 100000

/-- What next gives. -/
def LNext (w w' : World) (s : BitVec 32) (a0 : Option Addr) (b : List UInt8) (e : Ending) : Prop :=
  Pure w w' ∧ match nxt s b with
    | .error er => e = .returned (.tuple #[.agg #[.int .u8 0, .slice none 0 0], .int .i64 0, .int .u32 0, .int .i64 er])
    | .ok (r, n, s') => ∃ a cap, e = .returned (.tuple #[.agg #[.int .u8 r.k.toNat, .slice a r.d.length cap], .int .i64 n, .int .u32 s'.toNat, .int .i64 0]) ∧ Lies w' a (ub r.d) ∧ ablk a = ablk a0
theorem LNext.err {w w' : World} {s : BitVec 32} {a0 : Option Addr} {b : List UInt8} {er : Int} (hp : Pure w w') (h : nxt s b = .error er) : LNext w w' s a0 b (.returned (.tuple #[.agg #[.int .u8 0, .slice none 0 0], .int .i64 0, .int .u32 0, .int .i64 er])) := by
  refine ⟨hp, ?_⟩; rw [h]
theorem lnext_nil (s : BitVec 32) (a : Option Addr) (cap : Nat) (w : World) : Calls Try.prog 18 #[.int .u32 s.toNat, .slice a 0 cap] w fun e w' => LNext w w' s a [] e := by
  go_enter Try.func18, Try.ntmps18
  go_wp2
  refine bodyPost_ret (v := .tuple #[.agg #[.int .u8 0, .slice none 0 0], .int .i64 0, .int .u32 0, .int .i64 4]) (by simp [results, Try.results18, go_sem]) rfl ?_
  exact LNext.err (((Only.refl _ _).alloc _).alloc _) rfl
theorem lnext_mark (s : BitVec 32) (a : Option Addr) (cap : Nat) (c : UInt8) (t : List UInt8) (w : World) (hl : Lies w a (ub (c :: t))) (hc : c ≠ 197) :
    Calls Try.prog 18 #[.int .u32 s.toNat, .slice a (t.length + 1) cap] w fun e w' => LNext w w' s a (c :: t) e := by
  obtain ⟨b, o, rfl, hbl, hcell⟩ := hl.addr (by simp [ub])
  have hc0 : w.cell? ⟨b, o, none⟩ = some (.int .u8 c.toNat) := hcell 0 _ rfl
  have hne : ((c.toNat : Int) != 197) = true := by
    rw [bne_iff_ne]; intro h; exact hc (UInt8.toNat_inj.1 (by simpa using (by omega : c.toNat = 197)))
  have Hc := Lib.hid hc
  clear hcell hl hc
  go_enter Try.func18, Try.ntmps18
  go_wp2
  refine bodyPost_ret (v := .tuple #[.agg #[.int .u8 0, .slice none 0 0], .int .i64 0, .int .u32 0, .int .i64 2]) (by simp [results, Try.results18, go_sem]) rfl ?_
  exact LNext.err (((Only.refl _ _).alloc _).alloc _) (by unfold nxt; exact if_pos Hc.out)
theorem lnext_one (s : BitVec 32) (a : Option Addr) (cap : Nat) (w : World) (hl : Lies w a (ub [197])) :
    Calls Try.prog 18 #[.int .u32 s.toNat, .slice a 1 cap] w fun e w' => LNext w w' s a [197] e := by
  obtain ⟨b, o, rfl, hbl, hcell⟩ := hl.addr (by simp [ub])
  have hc0 : w.cell? ⟨b, o, none⟩ = some (.int .u8 197) := hcell 0 _ rfl
  clear hcell hl
  go_enter Try.func18, Try.ntmps18
  go_wp2
  refine bodyPost_ret (v := .tuple #[.agg #[.int .u8 0, .slice none 0 0], .int .i64 0, .int .u32 0, .int .i64 4]) (by simp [results, Try.results18, go_sem]) rfl ?_
  exact LNext.err (((Only.refl _ _).alloc _).alloc _) rfl
theorem refread_bad {t : List UInt8} (h : (dec 0 0 t).2.e ≠ 0) : refRead t = (0, 0, (dec 0 0 t).2.e) := if_neg h
theorem refread_ok {t : List UInt8} (h : (dec 0 0 t).2.e = 0) : ∃ v rest, dec 0 0 t = (v, ⟨rest, 0⟩) ∧ t = num v ++ rest ∧ refRead t = (v, (num v).length, 0) := by
  obtain ⟨v, h1, h2, _⟩ := dec_num t 0 0 h
  refine ⟨v, (dec 0 0 t).2.b, ?_, h2.symm, ?_⟩
  · ext1
    · simpa using h1
    · show (dec 0 0 t).2 = _
      rw [← h]
  · rw [refRead, if_pos h]
    simp only [Nat.mul_zero] at h1 h2
    rw [h1]
    have := congrArg List.length h2
    simp at this
    congr 2
    · simp
    · omega
theorem refread_any2 (bs : List UInt8) (w : World) (x n : Nat) (e : Int) (hlen : bs.length ≤ 1048576) (h : refRead bs = (x, n, e)) :
    Calls Try.prog 64 #[.string (str bs)] w fun r w' => r = .returned (.tuple #[.int .u64 x, .int .i64 n, .int .i64 e]) ∧ w = w' :=
  (refread_any bs hlen w).mono fun r w' hr => by rw [h] at hr; exact hr
theorem lnext_two (s : BitVec 32) (a : Option Addr) (k : UInt8) (w : World) (hl : Lies w a (ub [197, k])) :
    Calls Try.prog 18 #[.int .u32 s.toNat, .slice a 2 2] w fun e w' => LNext w w' s a [197, k] e := by
  obtain ⟨b, o, rfl, hbl, hcell⟩ := hl.addr (by simp [ub])
  have hc0 : w.cell? ⟨b, o, none⟩ = some (.int .u8 197) := hcell 0 _ rfl
  have hcv := fun (x : Option Addr) (w : World) => run_conv_string (P := Try.prog) w 24 9 5 Try.underlying24 Try.underlying5 Try.underlying9 x 0 0 [] rfl (Lies.nil _ _)
  clear hcell hl
  go_enter Try.func18, Try.ntmps18
  go_wp2_with fail
  refine (refread_any2 [] _ 0 0 4 (by simp) (by simp [refRead, dec])).mono ?_
  rintro e w' ⟨rfl, rfl⟩
  go_wp2
  refine bodyPost_ret (v := .tuple #[.agg #[.int .u8 0, .slice none 0 0], .int .i64 0, .int .u32 0, .int .i64 4]) (by simp [results, Try.results18, go_sem]) rfl ?_
  exact LNext.err (((Only.refl _ _).alloc _).alloc _) (by rw [nxt_rest_bad s k (by simp [dec])]; simp [dec])
theorem lbytes_any2 (s : BitVec 32) (k : UInt8) (d : List UInt8) (a : Option Addr) (n cap : Nat) (w : World) (hn : d.length = n) (hl : Lies w a (ub d)) (hlen : n ≤ 1024) :
    Calls Try.prog 15 #[.int .u32 s.toNat, .agg #[.int .u8 k.toNat, .slice a n cap]] w fun e w' => FB w w' s ⟨k, d⟩ e := by
  subst hn; exact lbytes_any s k d a cap w hl hlen
set_option maxHeartbeats 2000000 in
theorem lnext_more (s : BitVec 32) (a : Option Addr) (cap : Nat) (k : UInt8) (t : List UInt8) (w : World) (hl : Lies w a (ub (197 :: k :: t))) (hcap : t.length + 2 ≤ cap) (hc2 : ¬ cap = 2) (_hcap2 : cap ≤ maxLen) (hlen : t.length ≤ 1048574) :
    Calls Try.prog 18 #[.int .u32 s.toNat, .slice a (t.length + 2) cap] w fun e w' => LNext w w' s a (197 :: k :: t) e := by
  have hdrop := hl.drop 2
  rw [← ub_drop] at hdrop
  obtain ⟨b, o, rfl, hbl, hcell⟩ := hl.addr (by simp [ub])
  have hc0 : w.cell? ⟨b, o, none⟩ = some (.int .u8 197) := hcell 0 _ rfl
  have hc1 : w.cell? ⟨b, o + 1, none⟩ = some (.int .u8 k.toNat) := hcell 1 _ rfl
  have hl2 : Lies w (some ⟨b, o + 2, none⟩) (ub t) := by simpa [Addr.add] using hdrop
  have hcv := run_conv_string (P := Try.prog) ((w.alloc (.cells #[.int .u8 0, .slice none 0 0] 29)).alloc (.cells #[.int .u8 0, .slice none 0 0] 29)) 24 9 5 Try.underlying24 Try.underlying5 Try.underlying9 (some ⟨b, o + 2, none⟩) t.length (cap - 2) t rfl ((hl2.alloc _).alloc _)
  have hp0 : Pure w ((w.alloc (.cells #[.int .u8 0, .slice none 0 0] 29)).alloc (.cells #[.int .u8 0, .slice none 0 0] 29)) := ((Only.refl _ _).alloc _).alloc _
  clear hcell hdrop
  by_cases hE : (dec 0 0 t).2.e = 0
  · obtain ⟨v, rest, hdec, ht, hR⟩ := refread_ok hE
    have hnl : (num v).length + rest.length = t.length := by rw [ht]; simp
    have hv64 : v < 18446744073709551616 := by
      have := Rs.num_lt ⟨t, 0⟩
      simpa [Rs.num, hdec] using this
    have hnl1 := num_pos v
    obtain ⟨N, hN⟩ : ∃ N, N = (num v).length := ⟨_, rfl⟩
    rw [← hN] at hnl hR hnl1
    have Hdec := Lib.hid hdec
    have HN := Lib.hid hN
    have Ht := Lib.hid ht
    have Hv64 := Lib.hid hv64
    clear hdec ht hE hN hv64
    by_cases hv : 1024 < v
    · have hv' : (1024 : Int) < (v : Int) := by omega
      go_enter Try.func18, Try.ntmps18
      go_wp2_with fail
      refine (refread_any2 t _ v N 0 (by omega) hR).mono ?_
      rintro e w' ⟨rfl, rfl⟩
      go_wp2
      refine bodyPost_ret (v := .tuple #[.agg #[.int .u8 0, .slice none 0 0], .int .i64 0, .int .u32 0, .int .i64 15]) (by simp [results, Try.results18, go_sem]) rfl ?_
      exact LNext.err hp0 (nxt_rest_long s k Hdec.out hv)
    · have hv' : ¬ (1024 : Int) < (v : Int) := by omega
      by_cases hs : rest.length < v + 4
      · have hs' : (t.length : Int) + 2 < 2 + (N : Int) + (v : Int) + 4 := by omega
        go_enter Try.func18, Try.ntmps18
        go_wp2_with fail
        refine (refread_any2 t _ v N 0 (by omega) hR).mono ?_
        rintro e w' ⟨rfl, rfl⟩
        go_wp2
        refine bodyPost_ret (v := .tuple #[.agg #[.int .u8 0, .slice none 0 0], .int .i64 0, .int .u32 0, .int .i64 4]) (by simp [results, Try.results18, go_sem]) rfl ?_
        exact LNext.err hp0 (nxt_rest_short s k Hdec.out (by omega) hs)
      · have hs' : ¬ (t.length : Int) + 2 < 2 + (N : Int) + (v : Int) + 4 := by omega
        go_enter Try.func18, Try.ntmps18
        go_wp2_with fail
        refine (refread_any2 t _ v N 0 (by omega) hR).mono ?_
        rintro e w' ⟨rfl, rfl⟩
        go_wp2_with fail
        have q0 : (0 : Int) ≤ 2 + (N : Int) := by omega
        have q1 : 2 + (N : Int) ≤ 2 + (N : Int) + (v : Int) := by omega
        have q3 : 2 + (N : Int) + (v : Int) ≤ (cap : Int) := by omega
        have q4 : ¬ cap = 2 + N := by omega
        have q6 : (1 : Int) < (t.length : Int) + 2 := by omega
        have t1 : (2 + (N : Int) + (v : Int)).toNat = 2 + N + v := by omega
        have t2 : (2 + (N : Int)).toNat = 2 + N := by omega
        have t3 : 2 + N + v - (2 + N) = v := by omega
        have s1 : IntKind.i64.wrap (2 + (N : Int) + (v : Int)) = 2 + (N : Int) + (v : Int) := IntWalk.i64_in _ (by omega)
        have s2 : IntKind.i64.wrap (2 + (N : Int)) = 2 + (N : Int) := IntWalk.i64_in _ (by omega)
        have s3 : IntKind.i64.wrap (v : Int) = (v : Int) := IntWalk.i64_in _ (by omega)
        have hd1 := (hp0.alloc (.cells #[.int .u8 0, .slice none 0 0] 29)).cell hc1 id
        go_region
        all_goals
          obtain ⟨d, hd⟩ : ∃ d, d = rest.take v := ⟨_, rfl⟩
          have hdl : d.length = v := by rw [hd]; simp; omega
          go_wp2_with fail
          have hld : Lies w (some ⟨b, o + (2 + N), none⟩) (ub d) := by
            have h := (hl.drop (2 + N)).take v
            rw [← ub_drop, ← ub_take] at h
            have e1 : ((197 :: k :: t).drop (2 + N)).take v = d := by
              rw [hd]
              have := Ht.out
              have h2 := HN.out
              subst this
              rw [show 197 :: k :: (num v ++ rest) = (197 :: k :: num v) ++ rest by simp, drop_pre _ _ _ (by simp; omega)]
            rw [e1] at h
            simpa [Addr.add] using h
          refine (lbytes_any2 s k d _ v (cap - (2 + N)) _ hdl ((((hld.alloc _).alloc _).alloc _).drew) (by omega)).mono ?_
          rintro e w2 ⟨⟨a2, cap2, rfl, hrow2, hf2⟩, hp2⟩
          have hp2' : Pure w w2 := ((((Only.refl (fun _ => False) w).alloc _).alloc _).alloc _).drew.trans hp2 (fun _ _ h => h)
          obtain ⟨y, hy⟩ : ∃ y, y = (rest.drop v).take 4 := ⟨_, rfl⟩
          obtain ⟨z, hz⟩ : ∃ z, z = rest.drop (v + 4) := ⟨_, rfl⟩
          have hyl : y.length = 4 := by rw [hy]; simp; omega
          have hrest : rest = d ++ (y ++ z) := by
            rw [hd, hy, hz, ← List.drop_drop, List.take_append_drop, List.take_append_drop]
          have hbytes : 197 :: k :: t = headb ⟨k, d⟩ ++ (y ++ z) := by
            rw [Ht.out, hrest]; simp [headb, hdl]
          have hwh := nxt_whole s k d y z (by omega) hyl
          rw [← hbytes] at hwh
          obtain ⟨G, hG⟩ : ∃ G, G = frameb s ⟨k, d⟩ := ⟨_, rfl⟩
          obtain ⟨H, hH⟩ : ∃ H, H = headb ⟨k, d⟩ ++ y := ⟨_, rfl⟩
          have hhl : (headb ⟨k, d⟩).length = 2 + N + v := by simp [headb, hdl, HN.out]; omega
          have hGl : G.length = 2 + N + v + 4 := by rw [hG, frameb, List.length_append, hhl]; rfl
          have hHl : H.length = 2 + N + v + 4 := by rw [hH, List.length_append, hhl, hyl]
          have hlH : Lies w2 (some ⟨b, o, none⟩) (ub H) := by
            have h := (hl.pure hp2').take (2 + N + v + 4)
            rw [← ub_take, hbytes, ← List.append_assoc, ← hH, take_pre _ _ _ hHl.symm] at h
            exact h
          rw [← hG] at hrow2 hwh ⊢
          rw [hGl] at hrow2 hwh ⊢
          obtain ⟨S, hS⟩ : ∃ S, S = frameSum s ⟨k, d⟩ := ⟨_, rfl⟩
          rw [← hS] at hwh ⊢
          have hGH : (y = four (more s (headb ⟨k, d⟩))) ↔ G = H := by
            rw [hG, hH, frameb]
            exact ⟨fun h => by rw [h], fun h => (List.append_cancel_left h).symm⟩
          have Hwh := Lib.hid hwh
          have HGH := Lib.hid hGH
          have hb4 : Blk w2 w.heap.size #[.int .u8 0, .slice none 0 0] 29 := ((((Blk.new w _ 29).alloc _).alloc _).drew).only hp2 id
          have hb8 : Blk w2 (w.heap.size + 1) #[.int .u8 0, .slice none 0 0] 29 := (((Blk.new' (by simp) _ 29).alloc _).drew).only hp2 id
          have hb12 : Blk w2 (w.heap.size + 2) #[.int .u8 k.toNat, .slice (some ⟨b, o + (2 + N), none⟩) v (cap - (2 + N))] 29 := ((Blk.new' (by simp) _ 29).drew).only hp2 id
          have hcA := fun n => run_conv_string (P := Try.prog) (w2.drewN n) 24 9 5 Try.underlying24 Try.underlying5 Try.underlying9 a2 (2 + N + v + 4) cap2 G hGl (hrow2.lies.keep (fun _ _ _ => rfl))
          have hcB := fun n => run_conv_string (P := Try.prog) (w2.drewN n) 24 9 5 Try.underlying24 Try.underlying5 Try.underlying9 (some ⟨b, o, none⟩) (2 + N + v + 4) cap H hHl (hlH.keep (fun _ _ _ => rfl))
          have hcA0 := hcA 0
          have hcB0 := hcB 0
          have hcA1 := hcA 1
          have hcB1 := hcB 1
          obtain ⟨nb, hnb⟩ : ∃ nb, nb = !decide (G = H) := ⟨_, rfl⟩
          have hq : ((⟨⟨G⟩⟩ : ByteArray) != ⟨⟨H⟩⟩) = nb := by
            show (!(str G == str H)) = _
            rw [str_beq, hnb]
            by_cases h : G = H <;> simp [h]
          have Hnb := Lib.hid hnb
          have h40 := hb4.cell (i := 0) rfl
          have h41 := hb4.cell (i := 1) rfl
          have f40 := hb4.frozen 0
          have f41 := hb4.frozen 1
          have h80 := hb8.cell (i := 0) rfl
          have h81 := hb8.cell (i := 1) rfl
          have h120 := hb12.cell (i := 0) rfl
          have h121 := hb12.cell (i := 1) rfl
          have Hd := Lib.hid hd
          have HG := Lib.hid hG
          clear hy hz hyl hrest hbytes hwh hG hH hhl hGl hHl hS hGH hnb hd
          have hq2 : ((⟨⟨G⟩⟩ : ByteArray) == ⟨⟨H⟩⟩) = !nb := by rw [← hq]; simp [bne]
          cases nb with
          | false =>
            have hEq : G = H := by have := Hnb.out; simpa using this
            have hN := Hwh.out
            rw [if_pos (HGH.out.2 hEq)] at hN
            have HN2 := Lib.hid hN
            have hq3 : (G == H) = true := by simpa using hEq
            clear hN hEq
            go_wp2_with fail
            go_quiet (fail)
            have hpn : Pure w (w2.drewN nq) := hp2'.drewN _
            go_wp2_with fail
            have hb4n : Blk (w2.drewN nq) w.heap.size #[.int .u8 0, .slice none 0 0] 29 := hb4
            have hbF := (hb4n.set 0 (.int .u8 k.toNat)).set 1 (.slice (some ⟨b, o + (2 + N), none⟩) v (cap - (2 + N)))
            have hF0 := hbF.cell (i := 0) rfl
            have hF1 := hbF.cell (i := 1) rfl
            refine bodyPost_ret (v := .tuple #[.agg #[.int .u8 k.toNat, .slice (some ⟨b, o + (2 + N), none⟩) v (cap - (2 + N))], .int .i64 (2 + N + v + 4 : Nat), .int .u32 S.toNat, .int .i64 0]) (by simp [results, Try.results18, go_sem, hF0, hF1]) rfl ?_
            have hpF : Pure w (((w2.drewN nq).setCell ⟨w.heap.size, 0, none⟩ (.int .u8 k.toNat)).setCell ⟨w.heap.size, 1, none⟩ (.slice (some ⟨b, o + (2 + N), none⟩) v (cap - (2 + N)))) :=
              (hpn.setCell (fun h => by simp at h) _).setCell (fun h => by simp at h) _
            refine ⟨hpF, ?_⟩
            rw [HN2.out]
            exact ⟨some ⟨b, o + (2 + N), none⟩, cap - (2 + N), by simp only [hdl], hld.pure hpF, rfl⟩
          | true =>
            have hNe : ¬ G = H := by have := Hnb.out; simpa using this
            have hN := Hwh.out
            rw [if_neg (fun h => hNe (HGH.out.1 h))] at hN
            have HN2 := Lib.hid hN
            have hq3 : (G == H) = false := by simpa using hNe
            clear hN hNe
            go_wp2_with fail
            go_quiet (fail)
            have hpn : Pure w (w2.drewN nq) := hp2'.drewN _
            go_wp2_with fail
            have hb4n : Blk (w2.drewN nq) w.heap.size #[.int .u8 0, .slice none 0 0] 29 := hb4
            have hbF := (hb4n.set 0 (.int .u8 0)).set 1 (.slice none 0 0)
            have hF0 := hbF.cell (i := 0) rfl
            have hF1 := hbF.cell (i := 1) rfl
            refine bodyPost_ret (v := .tuple #[.agg #[.int .u8 0, .slice none 0 0], .int .i64 0, .int .u32 0, .int .i64 5]) (by simp [results, Try.results18, go_sem, hF0, hF1]) rfl ?_
            exact LNext.err ((hpn.setCell (fun h => by simp at h) _).setCell (fun h => by simp at h) _) HN2.out
  · go_enter Try.func18, Try.ntmps18
    obtain ⟨E, hEE⟩ : ∃ E, E = (dec 0 0 t).2.e := ⟨_, rfl⟩
    have hR := refread_bad hE
    have hN := nxt_rest_bad s k hE
    rw [← hEE] at hE hR hN
    have hE' : (E != 0) = true := by simp [hE]
    have HN := Lib.hid hN
    clear hE hN hEE
    go_wp2_with fail
    refine (refread_any2 t _ 0 0 E (by omega) hR).mono ?_
    rintro e w' ⟨rfl, rfl⟩
    go_wp2
    refine bodyPost_ret (v := .tuple #[.agg #[.int .u8 0, .slice none 0 0], .int .i64 0, .int .u32 0, .int .i64 E]) (by simp [results, Try.results18, go_sem]) rfl ?_
    exact LNext.err hp0 HN.out
theorem lnext_any (s : BitVec 32) (a : Option Addr) (n cap : Nat) (b : List UInt8) (w : World) (hn : b.length = n) (hl : Lies w a (ub b)) (hcap : n ≤ cap) (hcap2 : cap ≤ maxLen) (hlen : n ≤ 1048576) :
    Calls Try.prog 18 #[.int .u32 s.toNat, .slice a n cap] w fun e w' => LNext w w' s a b e := by
  subst hn
  cases b with
  | nil => exact lnext_nil s a cap w
  | cons c t =>
    by_cases hc : c = 197
    · subst hc
      cases t with
      | nil => exact lnext_one s a cap w hl
      | cons k t =>
        by_cases h2 : cap = 2
        · subst h2
          have ht : t = [] := List.eq_nil_of_length_eq_zero (by simp only [List.length_cons] at hcap; omega)
          subst ht
          exact lnext_two s a k w hl
        · exact lnext_more s a cap k t w hl (by simpa using hcap) h2 hcap2 (by have h := hlen; simp only [List.length_cons] at h; omega)
    · exact lnext_mark s a cap c t w hl hc
end Go.Proofs.Ytchmcjimnliodaa
