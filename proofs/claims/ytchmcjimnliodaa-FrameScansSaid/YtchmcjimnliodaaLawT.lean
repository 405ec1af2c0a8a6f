/- complinelaw03: what its inner functions give. -/
import Derived.Test.YtchmcjimnliodaaRefR
import Derived.Test.YtchmcjimnliodaaFrameG
namespace Go.Proofs.Ytchmcjimnliodaa
open Go.RowKit
set_option maxRecDepth 100000

theorem run_app_str (W : World) (a : Option Addr) (n cap : Nat) (xs bs : List UInt8) (hrow : Row W 5 1 a n cap (ub xs)) (hsz : n + bs.length ≤ 1099511627776) :
    ∃ a' cap' w', (Builtin.append_ #[24, 9] 24 #[.slice a n cap, .string (str bs)]).run Try.prog W = .ok (.slice a' (n + bs.length) cap') w' ∧ Row w' 5 1 a' (n + bs.length) cap' (ub (xs ++ bs)) ∧
      Only (fun k => ablk a = some k) W w' ∧ (ablk a' = ablk a ∨ ablk a' = some W.heap.size) := by
  obtain ⟨ht, h0, i, z, hi, hz, hsize, hby, hzs⟩ := el24
  have hs := Src.ofString (P := Try.prog) W Try.underlying9 (str bs)
  have hb : byteCells (str bs) = ub bs := by simp [byteCells, ub]
  rw [hb, str_size] at hs
  obtain ⟨a', cap', w', h1, h2, h3⟩ := run_append_row (P := Try.prog) W 24 9 24 5 i z 1 1 ht hi hz hsize hby hzs h0 a n cap (ub xs) hrow (.string (str bs)) bs.length (ub bs) hs (by simp only [maxLen]; omega) (by omega)
  exact ⟨a', cap', w', h1, by rw [ub_append]; exact h2, h3⟩
/-- What bytes gives. -/
def FB (w w' : World) (s : BitVec 32) (r : Rec) (e : Ending) : Prop :=
  (∃ a cap, e = .returned (.tuple #[.slice a (frameb s r).length cap, .int .u32 (frameSum s r).toNat]) ∧ Row w' 5 1 a (frameb s r).length cap (ub (frameb s r)) ∧ ∀ k, ablk a = some k → w.heap.size ≤ k) ∧ Pure w w'
section
attribute [-go_sem] Builtin.append_
set_option maxHeartbeats 1000000 in
theorem lbytes_any (s : BitVec 32) (k : UInt8) (d : List UInt8) (a : Option Addr) (cap : Nat) (w : World) (hl : Lies w a (ub d)) (hlen : d.length ≤ 1024) :
    Calls Try.prog 15 #[.int .u32 s.toNat, .agg #[.int .u8 k.toNat, .slice a d.length cap]] w fun e w' => FB w w' s ⟨k, d⟩ e := by
  have hb := Blk.new w #[.int .u8 k.toNat, .slice a d.length cap] 29
  have hc0 := hb.cell (i := 0) rfl
  have hc1 := hb.cell (i := 1) rfl
  obtain ⟨w1, hw1⟩ : ∃ w1, w1 = w.alloc (.cells #[.int .u8 k.toNat, .slice a d.length cap] 29) := ⟨_, rfl⟩
  have hl1 : Lies w1 a (ub d) := by rw [hw1]; exact hl.alloc _
  have hp1 : Pure w w1 := by rw [hw1]; exact (Only.refl _ _).alloc _
  have hb1 : Blk w1 w.heap.size #[.int .u8 k.toNat, .slice a d.length cap] 29 := by rw [hw1]; exact hb
  rw [← hw1] at hc0 hc1
  have hcv1 := run_conv_string (P := Try.prog) w1.drew 24 9 5 Try.underlying24 Try.underlying5 Try.underlying9 a d.length cap d rfl hl1.drew
  have hcv2 := run_conv_string (P := Try.prog) (w1.alloc (.cells #[.int .u8 197, .int .u8 k.toNat] 5)).drew 24 9 5 Try.underlying24 Try.underlying5 Try.underlying9 a d.length cap d rfl (hl1.alloc _).drew
  have hne1 : ¬ (w.heap.size = w1.heap.size) := by rw [hw1]; simp
  have hd1 := (hb1.alloc (.cells #[.int .u8 197, .int .u8 k.toNat] 5)).cell (i := 1) rfl
  have Hw1 := Lib.hid hw1
  have hhead : [197, k] ++ (num d.length ++ d) = headb ⟨k, d⟩ := rfl
  have hn := num_length10 (x := d.length) (by omega)
  go_enter Try.func15, Try.ntmps15
  go_wp2_with fail
  rw [← Hw1.out]
  clear hw1
  go_region_with (first
    | (go_at_call 59; refine (reftext_any d _ (by omega)).mono ?_; rintro e w2 ⟨rfl, hp⟩
       have hb2 : Blk w2 w.heap.size #[.int .u8 k.toNat, .slice a d.length cap] 29 := by first | exact hb1.drew.only hp id | exact (hb1.alloc _).drew.only hp id
       have hx0 := hb2.cell (i := 0) rfl
       have hp2 : Pure w w2 := by first | exact hp1.drew.trans hp (fun _ _ h => h) | exact (hp1.alloc _).drew.trans hp (fun _ _ h => h)
       first
       | obtain ⟨a3, cap3, w3, happ, hrow3, ho3, hat3⟩ := run_app_str w2 (some ⟨w1.heap.size, 0, none⟩) 2 2 [197, k] (num d.length ++ d) (show Row w2 5 1 _ 2 2 _ from Row.of_blk (B := w1.heap.size) (n := 2) (((Blk.new w1 #[.int .u8 197, .int .u8 k.toNat] 5).drew).only hp id) rfl (by decide)) (by simp; omega)
       | obtain ⟨a3, cap3, w3, happ, hrow3, ho3, hat3⟩ := run_app_str (w2.alloc (.cells #[.int .u8 197, .int .u8 k.toNat] 5)) (some ⟨w2.heap.size, 0, none⟩) 2 2 [197, k] (num d.length ++ d) (show Row _ 5 1 _ 2 2 _ from Row.of_blk (B := w2.heap.size) (n := 2) (Blk.new w2 #[.int .u8 197, .int .u8 k.toNat] 5) rfl (by decide)) (by simp; omega)))
  all_goals
    have hp3 : Pure w w3 := by
      first
      | exact hp2.trans ho3 (by intro i hi h; have h' : w1.heap.size = i := Option.some.inj h; have := hp1.size; omega)
      | exact (hp2.alloc _).trans ho3 (by intro i hi h; have h' : w2.heap.size = i := Option.some.inj h; have := hp2.size; omega)
    have hf3 : ∀ q, ablk a3 = some q → w.heap.size ≤ q := by
      intro q hq
      rcases hat3 with h | h
      · rw [h] at hq; simp [ablk] at hq; have := hp1.size; have := hp2.size; omega
      · rw [h] at hq; simp at hq; have := hp2.size; omega
    obtain ⟨L, hL⟩ : ∃ L, L = [197, k] ++ (num d.length ++ d) := ⟨_, rfl⟩
    have hLl : L.length = 2 + (num d.length ++ d).length := by rw [hL]; simp; omega
    have hLs : L.length ≤ 2000 := by rw [hLl]; simp; omega
    rw [← hL] at hrow3 hhead
    rw [← hLl] at hrow3
    have Hhead := Lib.hid hhead
    have HL := Lib.hid hL
    clear hat3 happ hhead hcv1 hcv2 hc0 hc1 hd1 hx0
    simp only [List.length_append] at hLl
    rw [← hLl]
    have HLl := Lib.hid hLl
    clear hLl hL
    go_wp2_with fail
    refine (more_any s a3 cap3 L _ hrow3.lies (by omega)).mono ?_
    rintro e w' ⟨rfl, rfl⟩
    obtain ⟨S, hS⟩ : ∃ S, S = (more s L).toNat := ⟨_, rfl⟩
    rw [← hS]
    have hSlt : S < 4294967296 := by rw [hS]; exact (more s L).isLt
    have f1 : four (more s L) = [UInt8.ofNat S, UInt8.ofNat (S / 256), UInt8.ofNat (S / 65536), UInt8.ofNat (S / 16777216)] := by rw [four, ← hS]
    have HS := Lib.hid hS
    obtain ⟨Y, hY⟩ : ∃ Y, Y = four (more s L) := ⟨_, rfl⟩
    have hYl : Y.length = 4 := by rw [hY]; rfl
    have hub : ub Y = [.int .u8 ((S : Int) % 256), .int .u8 (((S : Int) / 256) % 256), .int .u8 (((S : Int) / 65536) % 256), .int .u8 ((S : Int) / 16777216)] := by
      rw [hY, f1]
      simp only [ub, List.map_cons, List.map_nil, UInt8.toNat_ofNat']
      have : S / 16777216 % 2 ^ 8 = S / 16777216 := Nat.mod_eq_of_lt (by omega)
      rw [this]
      simp
    have HY := Lib.hid hY
    have Hub := Lib.hid hub
    clear hS f1 hY hub
    go_wp2_with (at_builtin; refine Stop.in ?_)
    refine Stop.out ?_
    refine wpList_app_bytes _ rfl _ _ rfl el24 a3 L.length cap3 L rfl (hrow3.alloc _) (some ⟨w3.heap.size, 0, none⟩) 4 4 Y rfl (by rw [Hub.out]; exact (Blk.new w3 _ 5).lies) hYl (by omega) ?_
    intro a4 cap4 w4 hrow4 ho4 hat4
    go_wp2
    go_ret2
    have hp4 : Pure w w4 := (hp3.alloc _).trans ho4 (by intro i hi h; have := hf3 i h; omega)
    have e1 : frameb s ⟨k, d⟩ = L ++ Y := by rw [frameb, ← Hhead.out, HY.out]
    have e2 : frameSum s ⟨k, d⟩ = more s L := by rw [frameSum, ← Hhead.out]
    refine ⟨?_, hp4⟩
    rw [e1, e2, ← HS.out]
    refine ⟨a4, cap4, by simp [hYl], by simpa [hYl] using hrow4, ?_⟩
    intro q hq
    rcases hat4 with h | h
    · exact hf3 q (by rw [← h]; exact hq)
    · rw [h] at hq; simp at hq; have := hp3.size; omega
end
end Go.Proofs.Ytchmcjimnliodaa
