/- frame: what its functions give. -/
import Derived.Test.YtchmcjimnliodaaCrc
import Derived.Test.YtchmcjimnliodaaFrameP
import Derived.BigQuiet
import Derived.Deep.QuietTactic
import Derived.Deep.RegionWith
import Derived.Deep.DeepCutAuto
namespace Go.Proofs.Ytchmcjimnliodaa
open Go.RowKit
set_option maxRecDepth 100000

/-- slices.Equal of bytes. -/
theorem equal_any (a b : Option Addr) (ca cb : Nat) (xs ys : List UInt8) (w : World) (hx : Lies w a (ub xs)) (hy : Lies w b (ub ys)) (hlx : xs.length ≤ 1099511627776) (hly : ys.length ≤ 1099511627776) :
    Calls Try.prog 107 #[.slice a xs.length ca, .slice b ys.length cb] w fun e w' => e = .returned (.bool (xs == ys)) ∧ ∃ n, w' = w.drewN n := by
  by_cases hne : xs.length = ys.length
  · have hne' : (((xs.length : Nat) : Int) != ((ys.length : Nat) : Int)) = false := by simp [hne]
    have Hne0 := Lib.hid hne
    clear hne
    go_enter Try.func107, Try.ntmps107
    go_wp2
    go_loopw [5, 13] (fun _ i wr => ∃ k n : Nat, k ≤ xs.length ∧ i = .int .i64 k ∧ xs.take k = ys.take k ∧ wr = w.drewN n) (fun _ i _ => xs.length - (intOf i).toNat)
    case atStart => exact ⟨0, 0, by omega, rfl, rfl, rfl⟩
    case round =>
      obtain ⟨k, n, hk, rfl, htk, rfl⟩ := hrel
      have hne := Hne0.out
      by_cases hlt : k < xs.length
      · obtain ⟨bx, ox, rfl, _, hcx⟩ := hx.addr (by intro h; rw [← ub_length, h] at hlt; simp at hlt)
        obtain ⟨by_, oy, rfl, _, hcy⟩ := hy.addr (by intro h; rw [hne, ← ub_length, h] at hlt; simp at hlt)
        have hkx := hcx k _ (ub_at hlt)
        have hlt2 : k < ys.length := by omega
        have hky := hcy k _ (ub_at hlt2)
        obtain ⟨p, hp⟩ : ∃ p : Nat, p = xs[k].toNat := ⟨_, rfl⟩
        obtain ⟨q, hq⟩ : ∃ q : Nat, q = ys[k].toNat := ⟨_, rfl⟩
        rw [← hp] at hkx
        rw [← hq] at hky
        have Hp := Lib.hid hp
        have Hq := Lib.hid hq
        have Htk := Lib.hid htk
        have i0 : (0 : Int) ≤ (k : Int) := by omega
        have i1 : (k : Int) < (xs.length : Int) := by omega
        have i2 : (k : Int) < (ys.length : Int) := by omega
        have hne2 := Lib.hid hne
        clear hp hq htk hcx hcy hx hy hne
        by_cases hpq : p = q
        · have hpq' : ((p : Int) != (q : Int)) = false := by simp [hpq]
          have Hpq := Lib.hid hpq
          clear hpq
          go_wp2
          go_quiet (fail)
          go_wp2
          go_roundw
          case rel =>
            refine ⟨k + 1, n + nq, by omega, by go_num, ?_, rfl⟩
            rw [List.take_succ_eq_append_getElem hlt, List.take_succ_eq_append_getElem hlt2, Htk.out]
            have := Hpq.out; have := Hp.out; have := Hq.out
            congr 2
            exact UInt8.toNat_inj.1 (by omega)
          case measure => simp [intOf]; omega
        · have hpq' : ((p : Int) != (q : Int)) = true := by simp; omega
          have Hpq := Lib.hid hpq
          clear hpq
          go_wp2
          go_quiet (fail)
          go_wp2
          go_ret
          refine ⟨?_, n + nq, World.drewN_drewN ..⟩
          have hf : (xs == ys) = false := by
            rw [beq_eq_false_iff_ne]
            intro h
            subst h
            exact Hpq.out (by rw [Hp.out, Hq.out])
          rw [hf]; rfl
      · have : k = xs.length := by omega
        subst this
        have Htk := Lib.hid htk
        have Hne := Lib.hid hne
        clear htk hx hy hne
        go_wp2
        go_ret
        refine ⟨?_, _, rfl⟩
        have hf : (xs == ys) = true := by
          rw [beq_iff_eq]
          have := Htk.out
          rwa [List.take_length, Hne.out, List.take_length] at this
        rw [hf]; rfl
  · have hne' : (((xs.length : Nat) : Int) != ((ys.length : Nat) : Int)) = true := by simp; omega
    have Hne := Lib.hid hne
    clear hne
    go_enter Try.func107, Try.ntmps107
    go_wp2
    go_ret
    refine ⟨?_, 0, rfl⟩
    have hf : (xs == ys) = false := by
      rw [beq_eq_false_iff_ne]
      intro h
      subst h
      exact Hne.out rfl
    rw [hf]; rfl
set_option maxHeartbeats 400000 in
theorem head_any (k : UInt8) (d : List UInt8) (a : Option Addr) (cap : Nat) (w : World) (hl : Lies w a (ub d)) (hlen : d.length ≤ 1048576) :
    Calls Try.prog 89 #[.agg #[.int .u8 k.toNat, .slice a d.length cap]] w fun e w' => ∃ z, Made w w' 5 1 (headb ⟨k, d⟩).length (ub (headb ⟨k, d⟩)) z e := by
  have hn := num_length10 (x := d.length) (by omega)
  obtain ⟨L, hL⟩ : ∃ L, L = headb ⟨k, d⟩ := ⟨_, rfl⟩
  rw [← hL]
  have HL := Lib.hid hL
  clear hL
  have hbx := Blk.new w #[.int .u8 k.toNat, .slice a d.length cap] 29
  have hwr : Wr ((w.alloc (.cells #[.int .u8 k.toNat, .slice a d.length cap] 29)).alloc (.cells #[.slice none 0 0] 127)) (w.heap.size + 1) none [] :=
    ⟨none, 0, by have := Blk.new (w.alloc (.cells #[.int .u8 k.toNat, .slice a d.length cap] 29)) #[.slice none 0 0] 127; simpa using this, Row.nil _ _ _, rfl⟩
  have hbx2 := (hbx.alloc (.cells #[.slice none 0 0] 127)).alloc (.cells #[.int .u8 (197 : Int), .int .u8 k.toNat] 5)
  have hc0 := hbx.cell (i := 0) rfl
  have hlit : Lies (((w.alloc (.cells #[.int .u8 k.toNat, .slice a d.length cap] 29)).alloc (.cells #[.slice none 0 0] 127)).alloc (.cells #[.int .u8 (197 : Int), .int .u8 k.toNat] 5)) (some ⟨w.heap.size + 1 + 1, 0, none⟩) (ub [197, k]) :=
    (Blk.new' (by simp) #[.int .u8 (197 : Int), .int .u8 k.toNat] 5).lies
  go_enter Try.func89, Try.ntmps89
  go_wp2_with fail
  refine (raw_any (w.heap.size + 1) none [] [197, k] _ 2 _ (hwr.only ((Only.refl (fun _ => False) _).alloc _) id (by simp)) hlit (by simp)).mono ?_
  rintro e w1 ⟨rfl, hto1⟩
  obtain ⟨⟨r1, hw1, hr1⟩, ho1⟩ := id hto1
  have hbx3 := hbx2.only ho1 (by simp)
  have hc1 := hbx3.cell (i := 1) rfl
  go_wp2_with fail
  refine (num_any _ r1 _ d.length _ hw1 (by omega) (by simp)).mono ?_
  rintro e w2 ⟨rfl, hto2⟩
  obtain ⟨⟨r2, hw2, hr2⟩, ho2⟩ := id hto2
  have hp1 : Pure w w1 := ((((Only.refl (fun _ => False) w).alloc _).alloc _).alloc _).trans ho1 (by intro i hi h; simp at h; omega)
  have hp2 : Pure w w2 := hp1.trans ho2 (by
    intro i hi h
    rcases h with h | h
    · omega
    · rcases hr1 with rfl | ⟨k, rfl, hk⟩
      · simp at h
      · simp at h hk; omega)
  have hn1 : ∀ k, r1 = some k → w.heap.size + 3 ≤ k := by
    intro k hk
    rcases hr1 with rfl | ⟨k', rfl, hk'⟩
    · simp at hk
    · simp at hk hk'; omega
  have hbx4 := hbx3.only ho2 (by
    intro h
    rcases h with h | h
    · omega
    · have := hn1 _ h; omega)
  have hc2 := hbx4.cell (i := 1) rfl
  have hs12 := ho1.size
  simp at hs12
  clear hc1
  go_wp2_with fail
  refine (raw_any _ r2 _ d a cap _ hw2 (hl.pure hp2) (by simp; omega)).mono ?_
  rintro e w3 ⟨rfl, hto3⟩
  obtain ⟨⟨r3, hw3, hr3⟩, ho3⟩ := id hto3
  have hn2 : ∀ k, r2 = some k → w.heap.size + 3 ≤ k := by
    intro k hk
    rcases hr2 with rfl | ⟨k', rfl, hk'⟩
    · exact hn1 k hk
    · simp at hk; omega
  have hp3 : Pure w w3 := hp2.trans ho3 (by
    intro i hi h
    rcases h with h | h
    · omega
    · have := hn2 _ h; omega)
  clear hc2
  go_wp2_with fail
  have e1 : [] ++ [197, k] ++ num d.length ++ d = L := by rw [HL.out]; simp [headb]
  have hLl : L.length ≤ 1099511627776 := by rw [← e1]; simp; omega
  rw [e1] at hw3
  have He1 := Lib.hid e1
  clear e1 hto3
  refine (bytes_any _ r3 L _ hw3 hLl).mono ?_
  rintro e w4 ⟨z, ⟨a4, cap4, rfl, hrow4, hz4, hf4⟩, ho4⟩
  go_wp2_with fail
  go_ret
  exact ⟨z, ⟨a4, cap4, rfl, hrow4, hz4, fun k hk => Nat.le_trans hp3.size (hf4 k hk)⟩, hp3.trans ho4 (fun _ _ h => h)⟩

theorem size_any (k : UInt8) (d : List UInt8) (a : Option Addr) (cap : Nat) (w : World) (hl : Lies w a (ub d)) (hlen : d.length ≤ 1048576) :
    Calls Try.prog 42 #[.agg #[.int .u8 k.toNat, .slice a d.length cap]] w fun e w' => e = .returned (.int .i64 ((headb ⟨k, d⟩).length + 4 : Nat)) ∧ Pure w w' := by
  have hb := Blk.new w #[.int .u8 k.toNat, .slice a d.length cap] 29
  have hc0 := hb.cell (i := 0) rfl
  have hc1 := hb.cell (i := 1) rfl
  have hn := num_length10 (x := d.length) (by omega)
  obtain ⟨n, hn2⟩ : ∃ n, n = (headb ⟨k, d⟩).length := ⟨_, rfl⟩
  have hle : n ≤ 2097152 := by rw [hn2]; simp [headb]; omega
  have Hn := Lib.hid hn2
  clear hn2
  have hh := (head_any k d a cap (w.alloc (.cells #[.int .u8 k.toNat, .slice a d.length cap] 29)) (hl.alloc _) hlen).mono (R' := fun e w' => ∃ z, Made (w.alloc (.cells #[.int .u8 k.toNat, .slice a d.length cap] 29)) w' 5 1 n (ub (headb ⟨k, d⟩)) z e) (fun e w' h => by rw [Hn.out]; exact h)
  have HH := Lib.hid hh
  clear hh
  rw [← Hn.out]
  go_enter Try.func42, Try.ntmps42
  go_wp2_with fail
  refine HH.out.mono ?_
  rintro e w4 ⟨z, ⟨a4, cap4, rfl, hrow4, hz4, hf4⟩, ho4⟩
  go_wp2_with fail
  go_ret
  exact ⟨rfl, ((Only.refl _ _).alloc _).trans ho4 (fun _ _ h => h)⟩
/-- What frame.Bytes gives. -/
def FBytes (w w' : World) (s : BitVec 32) (r : Rec) (e : Ending) : Prop :=
  Pure w w' ∧ if 1024 < r.d.length then e = .returned (.tuple #[.slice none 0 0, .int .u32 0, .int .i64 15])
    else ∃ a cap, e = .returned (.tuple #[.slice a (frameb s r).length cap, .int .u32 (frameSum s r).toNat, .int .i64 0]) ∧ Row w' 5 1 a (frameb s r).length cap (ub (frameb s r)) ∧ ∀ k, ablk a = some k → w.heap.size ≤ k
theorem fbytes_any (s : BitVec 32) (k : UInt8) (d : List UInt8) (a : Option Addr) (cap : Nat) (w : World) (hl : Lies w a (ub d)) (hlen : d.length ≤ 1048576) :
    Calls Try.prog 58 #[.int .u32 s.toNat, .agg #[.int .u8 k.toNat, .slice a d.length cap]] w fun e w' => FBytes w w' s ⟨k, d⟩ e := by
  have hb := Blk.new w #[.int .u8 k.toNat, .slice a d.length cap] 29
  have hc0 := hb.cell (i := 0) rfl
  have hc1 := hb.cell (i := 1) rfl
  by_cases h : 1024 < d.length
  · have h' : (1024 : Int) < (d.length : Int) := by omega
    have Hp : Hid ((Only.refl (fun _ => False) w).alloc (.cells #[.int .u8 k.toNat, .slice a d.length cap] 29) = (Only.refl (fun _ => False) w).alloc (.cells #[.int .u8 k.toNat, .slice a d.length cap] 29)) := rfl
    go_enter Try.func58, Try.ntmps58
    go_wp2_with fail
    go_ret3
    refine ⟨(Only.refl _ _).alloc _, ?_⟩
    rw [if_pos h]; rfl
  · have h' : ¬ (1024 : Int) < (d.length : Int) := by omega
    have hn := num_length10 (x := d.length) (by omega)
    obtain ⟨L, hL⟩ : ∃ L, L = headb ⟨k, d⟩ := ⟨_, rfl⟩
    have hle : L.length ≤ 2097152 := by rw [hL]; simp [headb]; omega
    have HL := Lib.hid hL
    clear hL
    have hh := (head_any k d a cap (w.alloc (.cells #[.int .u8 k.toNat, .slice a d.length cap] 29)) (hl.alloc _) hlen).mono (R' := fun e w' => ∃ z, Made (w.alloc (.cells #[.int .u8 k.toNat, .slice a d.length cap] 29)) w' 5 1 L.length (ub L) z e) (fun e w' h => by rw [HL.out]; exact h)
    have HH := Lib.hid hh
    clear hh
    go_enter Try.func58, Try.ntmps58
    go_wp2_with fail
    refine HH.out.mono ?_
    rintro e w1 ⟨z, ⟨a1, cap1, rfl, hrow1, hz1, hf1⟩, ho1⟩
    go_wp2_with fail
    refine (more_any s a1 cap1 L _ hrow1.lies (by omega)).mono ?_
    rintro e w' ⟨rfl, rfl⟩
    go_wp2_with fail
    refine (four_any _ _).mono ?_
    rintro e w2 ⟨⟨a2, cap2, rfl, hrow2, hz2, hf2⟩, ho2⟩
    go_wp2_with (at_builtin; refine Stop.in ?_)
    refine Stop.out ?_
    refine wpList_app_bytes _ rfl _ _ rfl el24 a1 L.length cap1 L rfl (hrow1.only ho2 (by simp)) a2 4 cap2 (four (more s L)) rfl hrow2.lies rfl (by omega) ?_
    intro a3 cap3 w3 hrow3 ho3 hat3
    go_wp2
    go_ret3
    have hp2 : Pure w w2 := (((Only.refl (fun _ => False) w).alloc _).trans ho1 (fun _ _ h => h)).trans ho2 (fun _ _ h => h)
    have hf1' : ∀ k, ablk a1 = some k → w.heap.size ≤ k := by
      intro k hk
      have := hf1 k hk
      simp at this; omega
    have hp3 : Pure w w3 := hp2.trans ho3 (by intro i hi h; have := hf1' i h; omega)
    refine ⟨hp3, ?_⟩
    rw [if_neg h]
    have e1 : frameb s ⟨k, d⟩ = L ++ four (more s L) := by rw [frameb, ← HL.out]
    have e2 : frameSum s ⟨k, d⟩ = more s L := by rw [frameSum, ← HL.out]
    rw [e1, e2]
    refine ⟨a3, cap3, by simp [four_length], by simpa [four_length] using hrow3, ?_⟩
    intro k hk
    rcases hat3 with h | h
    · exact hf1' k (by rw [← h]; exact hk)
    · rw [h] at hk; simp at hk; have := hp2.size; omega
end Go.Proofs.Ytchmcjimnliodaa
