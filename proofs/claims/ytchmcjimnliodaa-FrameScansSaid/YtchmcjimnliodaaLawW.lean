/- complinelaw03: lives. -/
import Derived.Test.YtchmcjimnliodaaLawV
import Derived.Test.YtchmcjimnliodaaFrameU
import Derived.Lib.SlBytesConst
namespace Go.Proofs.Ytchmcjimnliodaa
open Go.RowKit
set_option maxRecDepth 100000

/-- A byte of a row of the call's own is set. -/
theorem Row.setAt {w : World} {e : TypeId} {b n cap : Nat} {xs : List Value} (h : Row w e 1 (some ⟨b, 0, none⟩) n cap xs) (i : Nat) (v : Value) : Row (w.setCell ⟨b, i, none⟩ v) e 1 (some ⟨b, 0, none⟩) n cap (xs.set i v) := by
  obtain ⟨h1, h2, h3, h4⟩ := h
  rcases h4 with ⟨h4, _⟩ | ⟨g, cur, hg, hh, hs, ht⟩
  · cases h4
  · injection hg with hg; injection hg with hg; subst hg
    refine ⟨by simpa using h1, h2, h3, .inr ⟨b, cur.setIfInBounds i v, rfl, Blk.set (show Blk w b cur e from hh) i v, by simpa using hs, ?_⟩⟩
    rw [← ht, Array.toList_setIfInBounds, List.take_set]
theorem Row.frozen {w : World} {e : TypeId} {size b n cap : Nat} {xs : List Value} (h : Row w e size (some ⟨b, 0, none⟩) n cap xs) (i : Nat) : w.frozen? ⟨b, i, none⟩ = false := by
  rcases h.2.2.2 with ⟨h4, _⟩ | ⟨g, cur, hg, hh, hs, ht⟩
  · cases h4
  · injection hg with hg; injection hg with hg; subst hg
    exact Blk.frozen (show Blk w b cur e from hh) i
theorem Row.addr {w : World} {e : TypeId} {size : Nat} {a : Option Addr} {n cap : Nat} {xs : List Value} (h : Row w e size a n cap xs) (hn : 0 < n) : ∃ b, a = some ⟨b, 0, none⟩ ∧ b < w.heap.size := by
  rcases h.2.2.2 with ⟨_, h4, _⟩ | ⟨g, cur, hg, hh, hs, ht⟩
  · omega
  · exact ⟨g, hg, (Array.getElem?_eq_some_iff.1 hh).1⟩
theorem ub_set (l : List UInt8) (i : Nat) (y : UInt8) : ub (l.set i y) = (ub l).set i (.int .u8 y.toNat) := by simp [ub, List.map_set]
theorem xor_u8 (x y : UInt8) : bits .xor .u8 (x.toNat : Int) (y.toNat : Int) = ((x ^^^ y).toNat : Int) := by
  rw [bits_xor .u8 rfl x.toNat y.toNat x.toNat_lt y.toNat_lt, UInt8.toNat_xor]
theorem xor_ne {x y : UInt8} (h : y ≠ 0) : x ^^^ y ≠ x := by
  intro e
  apply h
  have h2 : x ^^^ (x ^^^ y) = x ^^^ x := by rw [e]
  rwa [← UInt8.xor_assoc, UInt8.xor_self, UInt8.zero_xor] at h2
theorem lies_marked (w : World) (cs : Array Value) (T : TypeId) (fz : Nat × Nat) : Lies (w.alloc (.cells cs T fz)) (some ⟨w.heap.size, 0, none⟩) cs.toList := by
  refine Lies.of_addr fun j u hj => ?_
  rw [cell_of_row _ w.heap.size (0 + j) cs T fz (heap_alloc_new w _), Nat.zero_add]
  simpa using hj
/-- frame.Bytes of a record that is not too long. -/
theorem fbytes_ok (s : BitVec 32) (k : UInt8) (d : List UInt8) (a : Option Addr) (n cap : Nat) (w : World) (hn : d.length = n) (hl : Lies w a (ub d)) (hlen : n ≤ 1024) :
    Calls Try.prog 58 #[.int .u32 s.toNat, .agg #[.int .u8 k.toNat, .slice a n cap]] w fun e w' => Pure w w' ∧ ∃ a cap, e = .returned (.tuple #[.slice a (frameb s ⟨k, d⟩).length cap, .int .u32 (frameSum s ⟨k, d⟩).toNat, .int .i64 0]) ∧ Row w' 5 1 a (frameb s ⟨k, d⟩).length cap (ub (frameb s ⟨k, d⟩)) ∧ ∀ k, ablk a = some k → w.heap.size ≤ k := by
  subst hn
  refine (fbytes_any s k d a cap w hl (by omega)).mono fun e w' h => ?_
  obtain ⟨h1, h2⟩ := h
  rw [if_neg (by simp; omega)] at h2
  exact ⟨h1, h2⟩
set_option maxHeartbeats 1000000 in
theorem lives3 (w : World) : Calls Try.prog 14 #[] w fun e w' => e = .returned (.bool true) ∧ Pure w w' := by
  obtain ⟨s, hs⟩ : ∃ s, s = frameSum 7#32 ⟨1, [97]⟩ := ⟨_, rfl⟩
  have hA : (frameb 7#32 ⟨1, [97]⟩).length = 8 := by rw [frameb_length]; simp [num_small]
  have hB : (frameb s ⟨2, [98]⟩).length = 8 := by rw [frameb_length]; simp [num_small]
  obtain ⟨A, hAA⟩ : ∃ A, A = frameb 7#32 ⟨1, [97]⟩ := ⟨_, rfl⟩
  obtain ⟨B, hBB⟩ : ∃ B, B = frameb s ⟨2, [98]⟩ := ⟨_, rfl⟩
  have c1 := fun a w hl => (fbytes_ok 7#32 1 [97] a 1 1 w rfl hl (by decide))
  have c2 := fun a w hl => (fbytes_ok s 2 [98] a 1 1 w rfl hl (by decide))
  rw [← hs, ← hAA] at c1
  rw [← hBB] at c2
  rw [← hAA] at hA
  rw [← hBB] at hB
  rw [hA] at c1
  rw [hB] at c2
  have kc := fun (w : World) (C : Array Value) (n c : Nat) => Lib.run_convert_bytes_const (P := Try.prog) w 24 5 C n c Try.underlying24 Try.underlying5
  have C1 := Lib.hid c1
  have C2 := Lib.hid c2
  have Hs := Lib.hid hs
  have HAA := Lib.hid hAA
  have HBB := Lib.hid hBB
  clear c1 c2 hs hAA hBB
  go_enter Try.func14, Try.ntmps14
  go_wp2_with fail
  refine (show Calls Try.prog 58 #[.int .u32 7, .agg #[.int .u8 1, .slice (some ⟨w.heap.size, 0, none⟩) 1 1]] _ _ from
    C1.out (some ⟨w.heap.size, 0, none⟩) (w.alloc (.cells #[.int .u8 97] 5 (1, 2))) (lies_marked w _ _ _)).mono ?_
  rintro e w1 ⟨hp1, a1, cap1, rfl, hrow1, hf1⟩
  go_wp2_with fail
  refine (show Calls Try.prog 58 #[.int .u32 s.toNat, .agg #[.int .u8 2, .slice (some ⟨w1.heap.size, 0, none⟩) 1 1]] _ _ from
    C2.out (some ⟨w1.heap.size, 0, none⟩) (w1.alloc (.cells #[.int .u8 98] 5 (1, 2))) (lies_marked w1 _ _ _)).mono ?_
  rintro e w2 ⟨hp2, a2, cap2, rfl, hrow2, hf2⟩
  have hp12 : Pure w1 w2 := ((Only.refl (fun _ => False) w1).alloc _).trans hp2 (fun _ _ h => h)
  have hpw1 : Pure w w1 := ((Only.refl (fun _ => False) w).alloc _).trans hp1 (fun _ _ h => h)
  have hr1 := hrow1.only hp12 (fun _ _ => id)
  go_wp2_with (at_builtin; refine Stop.in ?_)
  refine Stop.out ?_
  refine wpList_app_bytes _ rfl _ _ rfl el24 a1 8 cap1 A rfl hr1 a2 8 cap2 B rfl hrow2.lies hB (by omega) ?_
  intro a3 cap3 w3 hrow3 ho3 hat3
  have hf1' : ∀ k, ablk a1 = some k → w.heap.size ≤ k := fun k hk => by have := hf1 k hk; simp at this; omega
  have hpw3 : Pure w w3 := (hpw1.trans hp12 (fun _ _ h => h)).trans ho3 (by intro i hi h; have := hf1' i h; omega)
  obtain ⟨b3, rfl, hb3⟩ := hrow3.addr (by omega)
  have hb3w : w.heap.size ≤ b3 := by
    have := hpw1.size; have := hp12.size
    rcases hat3 with h | h
    · exact hf1' b3 (by rw [← h]; rfl)
    · simp [ablk] at h; omega
  obtain ⟨L, hL⟩ : ∃ L, L = A ++ B := ⟨_, rfl⟩
  have hLl : L.length = 16 := by rw [hL]; simp [hA, hB]
  rw [← hL] at hrow3
  obtain ⟨x, hx⟩ : ∃ x, x = L[11] := ⟨_, rfl⟩
  have hcell := hrow3.lies.at (j := 11) (ub_at (by omega))
  rw [← hx] at hcell
  have hfr := hrow3.frozen 11
  have hx1 : bits .xor .u8 (x.toNat : Int) 1 = ((x ^^^ 1).toNat : Int) := xor_u8 x 1
  have HL := Lib.hid hL
  have Hx := Lib.hid hx
  clear hL hx hat3
  go_wp2_with fail
  have e8 : (UInt8.toNat x ^^^ 1) = (x ^^^ 1).toNat := by rw [UInt8.toNat_xor]; rfl
  rw [e8]
  have hrow4 := hrow3.setAt 11 (.int .u8 (x ^^^ 1).toNat)
  rw [← ub_set] at hrow4
  obtain ⟨D, hD⟩ : ∃ D, D = L.set 11 (x ^^^ 1) := ⟨_, rfl⟩
  have hDl : D.length = 16 := by rw [hD]; simpa using hLl
  rw [← hD] at hrow4
  have hsc : (scan 7#32 0 D).2.1 = 8 := by
    have hch : chain 7#32 [⟨1, [97]⟩, ⟨2, [98]⟩] = L := by
      rw [HL.out, HAA.out, HBB.out, Hs.out]; simp [chain]
    have h := scan_turn 7#32 [⟨1, [97]⟩, ⟨2, [98]⟩] (by simp) 11 1 (by simp) (by simp [pos, chain, frameb_length, num_small]) (by simp [pos, chain, frameb_length, num_small]) (by simp [pos, chain, frameb_length, num_small]) (x ^^^ 1) (by rw [hch]; omega) (by
      simp only [hch]
      rw [← Hx.out]
      exact xor_ne (by decide))
    rw [hch, ← hD] at h
    rw [h]
    simp [pos, chain, frameb_length, num_small]
  have Hsc := Lib.hid hsc
  clear hD hsc
  have hg := good_any 7#32 (some ⟨b3, 0, none⟩) cap3 D _ hrow4.lies (by have := hrow4.2.1; omega) hrow4.2.2.1 (by omega)
  rw [hDl, Hsc.out] at hg
  obtain ⟨S, hS⟩ : ∃ S : Nat, S = (scan 7#32 0 D).2.2.toNat := ⟨_, rfl⟩
  rw [← hS] at hg
  have hg := show Calls Try.prog 19 #[.int .u32 7, .slice (some ⟨b3, 0, none⟩) 16 cap3] (w3.setCell ⟨b3, 11, none⟩ (.int .u8 (x ^^^ 1).toNat)) fun e w' => e = .returned (.tuple #[.int .i64 8, .int .u32 S]) ∧ Pure (w3.setCell ⟨b3, 11, none⟩ (.int .u8 (x ^^^ 1).toNat)) w' from hg
  clear hS
  refine hg.mono ?_
  rintro e w5 ⟨rfl, hp5⟩
  clear e8 hx1
  go_wp2_with fail
  go_ret
  exact ⟨rfl, (hpw3.setCell (fun h => by simp at h; omega) _).trans hp5 (fun _ _ h => h)⟩
end Go.Proofs.Ytchmcjimnliodaa
