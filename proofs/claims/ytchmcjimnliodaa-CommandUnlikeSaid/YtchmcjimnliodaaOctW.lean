/- The writer of octet: what each of its functions leaves. -/
import Derived.Test.YtchmcjimnliodaaChecked
import Derived.Test.YtchmcjimnliodaaBase
import Derived.Test.YtchmcjimnliodaaPlain
import Derived.Test.YtchmcjimnliodaaBit
import Derived.WalkKit
import Derived.WalkSpells
import Derived.WalkLawsBesides
import Derived.Lib.Hide
import Derived.Outline
namespace Go.Proofs.Ytchmcjimnliodaa
open Go.RowKit
set_option maxRecDepth 100000

theorem el24 : ElemT Try.prog 24 5 1 1 := ElemT.mk (z := .int .u8 0) Try.underlying24 (by kernel_rfl) rfl (by decide)

/-- Block `B` is a writer that has the bytes `bs`, kept in the block `r`. -/
def Wr (w : World) (B : Nat) (r : Option Nat) (bs : List UInt8) : Prop :=
  ∃ a cap, Blk w B #[.slice a bs.length cap] 127 ∧ Row w 5 1 a bs.length cap (ub bs) ∧ ablk a = r
/-- A writer has these bytes now; nothing else has changed. -/
structure WrTo (w w' : World) (B : Nat) (r : Option Nat) (bs : List UInt8) : Prop where
  now : ∃ r', Wr w' B r' bs ∧ (r' = r ∨ ∃ k, r' = some k ∧ w.heap.size ≤ k)
  only : Only (fun k => k = B ∨ r = some k) w w'
theorem Wr.lt {w : World} {B : Nat} {r : Option Nat} {bs : List UInt8} (h : Wr w B r bs) : B < w.heap.size := by
  obtain ⟨a, cap, hb, _⟩ := h; exact hb.lt
theorem Wr.self {w : World} {B : Nat} {r : Option Nat} {bs : List UInt8} (h : Wr w B r bs) : WrTo w w B r bs := ⟨⟨r, h, .inl rfl⟩, Only.refl _ _⟩
theorem Wr.only {S : Nat → Prop} {w w' : World} {B : Nat} {r : Option Nat} {bs : List UInt8} (h : Wr w B r bs) (ho : Only S w w') (hB : ¬ S B) (hr : ∀ k, r = some k → ¬ S k) : Wr w' B r bs := by
  obtain ⟨a, cap, hb, hrow, rfl⟩ := h
  exact ⟨a, cap, hb.only ho hB, hrow.only ho hr, rfl⟩
theorem WrTo.trans {w w1 w2 : World} {B : Nat} {r r1 : Option Nat} {bs1 bs2 : List UInt8} (h : WrTo w w1 B r bs1) (hr : r1 = r ∨ ∃ k, r1 = some k ∧ w.heap.size ≤ k) (k : WrTo w1 w2 B r1 bs2) : WrTo w w2 B r bs2 := by
  obtain ⟨⟨r2, h2, hr2⟩, ho2⟩ := k
  refine ⟨⟨r2, h2, ?_⟩, h.only.trans ho2 ?_⟩
  · rcases hr2 with rfl | ⟨k, rfl, hk⟩
    · exact hr
    · exact .inr ⟨k, rfl, Nat.le_trans h.only.size hk⟩
  · intro i hi hx
    rcases hx with rfl | hx
    · exact .inl rfl
    · rcases hr with rfl | ⟨k, rfl, hk⟩
      · exact .inr hx
      · injection hx with hx; omega


theorem lies_new1 (w : World) (v : Value) (T : TypeId) : Lies (w.alloc (.cells #[v] T)) (some ⟨w.heap.size, 0, none⟩) [v] :=
  Lies.of_addr fun j u hj => by
    cases j with
    | zero => simp at hj; subst hj; exact (Blk.new w #[v] T).cell rfl
    | succ j => simp at hj
/-- One byte more. -/
theorem Wr.put {w w1 : World} {B : Nat} {a a' : Option Addr} {cap' n : Nat} {bs ys : List UInt8} {cs : Array Value} (h0 : Blk w B cs 127) (hcs : cs.size = 1) (hne : ablk a ≠ some B)
    (ho : Only (fun k => ablk a = some k) w w1) (hn : n = (bs ++ ys).length)
    (hrow : Row w1 5 1 a' n cap' (ub (bs ++ ys))) (hat : ablk a' = ablk a ∨ ∃ k, ablk a' = some k ∧ w.heap.size ≤ k) :
    WrTo w (w1.setCell ⟨B, 0, none⟩ (.slice a' n cap')) B (ablk a) (bs ++ ys) := by
  subst hn
  have hne' : ablk a' ≠ some B := by
    rcases hat with h | ⟨k, h, hk⟩
    · rw [h]; exact hne
    · rw [h]; intro e; injection e with e; have := h0.lt; omega
  have hb := (h0.only ho hne).set 0 (.slice a' (bs ++ ys).length cap')
  obtain ⟨c, rfl⟩ : ∃ c, cs = #[c] := by
    cases cs with | mk l => match l, hcs with | [c], _ => exact ⟨c, rfl⟩
  refine ⟨⟨ablk a', ⟨a', cap', hb, hrow.setCell hne' _, rfl⟩, ?_⟩, ?_⟩
  · rcases hat with h | ⟨k, h, hk⟩
    · exact .inl h
    · exact .inr ⟨k, h, hk⟩
  · exact (ho.mono fun i _ h => .inr h).setCell (fun _ => .inl rfl) _


set_option maxHeartbeats 400000 in
theorem num_any (B : Nat) (r : Option Nat) (bs : List UInt8) (x : Nat) (w : World) (hw : Wr w B r bs) (hx : x < 18446744073709551616) (hlen : bs.length + 10 ≤ 1099511627776) :
    Calls Try.prog 68 #[.pointer (some ⟨B, 0, none⟩), .int .u64 x] w fun e w' => e = .returned (.tuple #[]) ∧ WrTo w w' B r (bs ++ num x) := by
  have hnl := num_length10 hx
  have hself := hw.self
  have Hx := Lib.hid hx
  clear hx
  go_enter Try.func68, Try.ntmps68
  go_wp2
  go_loopw [1] (fun v wr => ∃ (y : Nat) (bs' : List UInt8), v = .int .u64 y ∧ y ≤ x ∧ bs' ++ num y = bs ++ num x ∧ WrTo w wr B r bs') (fun v _ => (intOf v).toNat)
  case atStart => exact ⟨x, bs, rfl, Nat.le_refl _, rfl, hself⟩
  case round =>
    obtain ⟨y, bs', rfl, hy, heq, hto⟩ := hrel
    have hto0 := hto
    obtain ⟨⟨r', hwr, hr'⟩, honly⟩ := hto
    obtain ⟨a, cap, hb, hrow, hr⟩ := hwr
    have hl : bs'.length ≤ bs.length + 10 := by
      have := congrArg List.length heq; simp at this; omega
    have hc := hb.cell (i := 0) rfl
    have hf := hb.frozen 0
    have HHeq := Lib.hid heq
    have HHr := Lib.hid hr
    clear heq hr
    have hmore := byte_more y
    have Hmore := Lib.hid hmore
    clear hmore
    have hne := hrow.ne_blk hb (by decide)
    go_wp2_with (at_builtin; refine Stop.in ?_)
    all_goals (refine Stop.out ?_)
    · have hy128 : 128 ≤ (y : Int) := by assumption
      rw [Hmore.out]
      refine wpList_app_bytes _ rfl _ _ rfl el24 a bs'.length cap bs' rfl (hrow.alloc _) (some ⟨wr.heap.size, 0, none⟩) 1 1 [UInt8.ofNat (y % 128 + 128)] rfl (lies_new1 _ _ _) rfl (by omega) ?_
      intro a2 cap2 w1 hrow1 ho1 hat1
      have hbw := ((hb.alloc _).only ho1 hne)
      have hc1 := hbw.cell (i := 0) rfl
      have hf1 := hbw.frozen 0
      clear hc hf
      go_wp2
      go_roundw
      case rel =>
        refine ⟨y / 128, bs' ++ [UInt8.ofNat (y % 128 + 128)], rfl, by omega, ?_, hto0.trans hr' ?_⟩
        · rw [← HHeq.out, num_big (x := y) (by omega)]; simp
        · have e := HHr.out
          subst e
          exact Wr.put hb rfl hne (((Only.refl _ _).alloc _).trans ho1 (fun _ _ h => h)) (by simp) hrow1 (hat1.imp id (fun h => ⟨_, h, by simp⟩))
      case measure => simp [intOf]; omega
    · have hy128 : (y : Int) < 128 := by assumption
      have hlow : (y : Int) = ((UInt8.ofNat y).toNat : Int) := by rw [toNat_small (by omega)]
      rw [show Value.int IntKind.u8 (y : Int) = Value.int IntKind.u8 ((UInt8.ofNat y).toNat : Int) from by rw [← hlow]]
      refine wpList_app_bytes _ rfl _ _ rfl el24 a bs'.length cap bs' rfl (hrow.alloc _) (some ⟨wr.heap.size, 0, none⟩) 1 1 [UInt8.ofNat y] rfl (lies_new1 _ _ _) rfl (by omega) ?_
      intro a2 cap2 w1 hrow1 ho1 hat1
      have hbw := ((hb.alloc _).only ho1 hne)
      have hc1 := hbw.cell (i := 0) rfl
      have hf1 := hbw.frozen 0
      clear hc hf hlow
      go_wp2
      go_end0
      refine ⟨rfl, ?_⟩
      rw [← HHeq.out, num_small (x := y) (by omega)]
      refine hto0.trans hr' ?_
      have e := HHr.out
      subst e
      exact Wr.put hb rfl hne (((Only.refl _ _).alloc _).trans ho1 (fun _ _ h => h)) (by simp) hrow1 (hat1.imp id (fun h => ⟨_, h, by simp⟩))

theorem el24u : Try.prog.underlying 9 = some .string := Try.underlying9
theorem row_new0 (w : World) (e : TypeId) (size : Nat) : Row (w.alloc (.cells #[] e)) e size (some ⟨w.heap.size, 0, none⟩) 0 0 [] :=
  Row.of_blk (Blk.new w #[] e) (by simp) (Nat.zero_le _)
theorem none_nil {w : World} {l : List UInt8} (h : Lies w none (ub l)) : l = [] := by
  cases l with
  | nil => rfl
  | cons x l => obtain ⟨b, o, e, _⟩ := h 0 _ rfl; cases e
set_option maxHeartbeats 400000 in
/-- slices.Clone of bytes. -/
theorem clone_bytes (a : Option Addr) (cap : Nat) (bs : List UInt8) (w : World) (hl : Lies w a (ub bs)) (hlen : bs.length ≤ 1099511627776) :
    Calls Try.prog 61 #[.slice a bs.length cap] w fun e w' => Made w w' 5 1 bs.length (ub bs) (a = none) e := by
  have hq := fun w => Lib.run_eql_slice_nil (P := Try.prog) w 24 5 a bs.length cap 0 0 Try.underlying24
  cases a with
  | none =>
    have := none_nil hl
    subst this
    simp only [List.length_nil] at hq ⊢
    clear hl hlen
    go_enter Try.func61, Try.ntmps61
    go_wp2
    go_ret
    exact ⟨⟨none, 0, rfl, Row.nil _ _ _, by simp, by simp [ablk]⟩, Only.refl _ _⟩
  | some ad =>
    go_enter Try.func61, Try.ntmps61
    go_wp2_with (at_builtin; refine Stop.in ?_)
    refine Stop.out ?_
    refine wpList_app_bytes _ rfl _ _ rfl el24 (some ⟨w.heap.size, 0, none⟩) 0 0 [] rfl (row_new0 _ _ _) (some ad) bs.length cap bs rfl (hl.alloc _) rfl (by omega) ?_
    intro a2 cap2 w1 hrow1 ho1 hat1
    go_wp2
    go_ret
    simp only [Nat.zero_add, List.nil_append] at hrow1 ⊢
    refine ⟨⟨a2, cap2, rfl, hrow1, ?_, ?_⟩, ((Only.refl _ _).alloc _).trans ho1 (by intro i hi h; simp [ablk] at h; omega)⟩
    · rcases hat1 with h | h <;> (cases a2 <;> simp [ablk] at h ⊢)
    · intro k hk
      rcases hat1 with h | h
      · rw [h] at hk; simp [ablk] at hk; omega
      · rw [h] at hk; simp at hk; omega

set_option maxHeartbeats 400000 in
theorem raw_any (B : Nat) (r : Option Nat) (bs ys : List UInt8) (a : Option Addr) (cap : Nat) (w : World) (hw : Wr w B r bs) (hl : Lies w a (ub ys)) (hlen : bs.length + ys.length ≤ 1099511627776) :
    Calls Try.prog 123 #[.pointer (some ⟨B, 0, none⟩), .slice a ys.length cap] w fun e w' => e = .returned (.tuple #[]) ∧ WrTo w w' B r (bs ++ ys) := by
  obtain ⟨a1, cap1, hb, hrow, hr⟩ := hw
  have hc := hb.cell (i := 0) rfl
  have hne := hrow.ne_blk hb (by decide)
  have Hr := Lib.hid hr
  clear hr
  go_enter Try.func123, Try.ntmps123
  go_wp2_with (at_builtin; refine Stop.in ?_)
  refine Stop.out ?_
  refine wpList_app_bytes _ rfl _ _ rfl el24 a1 bs.length cap1 bs rfl hrow a ys.length cap ys rfl hl rfl (by omega) ?_
  intro a2 cap2 w1 hrow1 ho1 hat1
  have hbw := hb.only ho1 hne
  have hc1 := hbw.cell (i := 0) rfl
  have hf1 := hbw.frozen 0
  clear hc
  go_wp2
  go_end0
  refine ⟨rfl, ?_⟩
  have e := Hr.out
  subst e
  exact Wr.put hb rfl hne ho1 (by simp) hrow1 (hat1.imp id (fun h => ⟨_, h, Nat.le_refl _⟩))

theorem fold_any (x : Int) (hx : I64 x) (w : World) : Calls Try.prog 148 #[.int .i64 x] w fun e w' => e = .returned (.int .u64 (fold x)) ∧ w = w' := by
  have h := fold_bits hx
  have H := Lib.hid h
  clear h
  go_enter Try.func148, Try.ntmps148
  go_wp2
  go_ret
  exact ⟨congrArg (fun z => Ending.returned (.int .u64 z)) H.out, rfl⟩
theorem int_any (B : Nat) (r : Option Nat) (bs : List UInt8) (x : Int) (w : World) (hw : Wr w B r bs) (hx : I64 x) (hlen : bs.length + 10 ≤ 1099511627776) :
    Calls Try.prog 139 #[.pointer (some ⟨B, 0, none⟩), .int .i64 x] w fun e w' => e = .returned (.tuple #[]) ∧ WrTo w w' B r (bs ++ num (fold x)) := by
  go_enter Try.func139, Try.ntmps139
  go_wp2_with fail
  refine (fold_any x hx _).mono ?_
  rintro e w' ⟨rfl, rfl⟩
  go_wp2_with fail
  refine (num_any B r bs (fold x) _ hw (fold_lt hx) hlen).mono ?_
  rintro e w' ⟨rfl, hto⟩
  go_wp2
  go_end0
  exact ⟨rfl, hto⟩
theorem flag_any (B : Nat) (r : Option Nat) (bs : List UInt8) (x : Bool) (w : World) (hw : Wr w B r bs) (hlen : bs.length + 10 ≤ 1099511627776) :
    Calls Try.prog 134 #[.pointer (some ⟨B, 0, none⟩), .bool x] w fun e w' => e = .returned (.tuple #[]) ∧ WrTo w w' B r (bs ++ num (if x then 1 else 0)) := by
  cases x
  · go_enter Try.func134, Try.ntmps134
    go_wp2_with fail
    refine (num_any B r bs 0 _ hw (by decide) hlen).mono ?_
    rintro e w' ⟨rfl, hto⟩
    go_wp2
    go_end0
    exact ⟨rfl, hto⟩
  · go_enter Try.func134, Try.ntmps134
    go_wp2_with fail
    refine (num_any B r bs 1 _ hw (by decide) hlen).mono ?_
    rintro e w' ⟨rfl, hto⟩
    go_wp2
    go_end0
    exact ⟨rfl, hto⟩
theorem text_any (B : Nat) (r : Option Nat) (bs : List UInt8) (s : ByteArray) (w : World) (hw : Wr w B r bs) (hlen : bs.length + s.size + 10 ≤ 1099511627776) :
    Calls Try.prog 135 #[.pointer (some ⟨B, 0, none⟩), .string s] w fun e w' => e = .returned (.tuple #[]) ∧ WrTo w w' B r (bs ++ (num s.size ++ s.data.toList)) := by
  have hcv := fun (w : World) => Lib.run_convert_string_bytes (P := Try.prog) w 9 24 5 s Try.underlying9 Try.underlying24 Try.underlying5
  have hn := num_length10 (x := s.size) (by omega)
  go_enter Try.func135, Try.ntmps135
  go_wp2_with fail
  refine (num_any B r bs s.size _ hw (by omega) (by omega)).mono ?_
  rintro e w1 ⟨rfl, hto⟩
  go_wp2_with fail
  obtain ⟨⟨r1, hw1, hr1⟩, ho1⟩ := id hto
  have hs : s.data.toList.length = s.size := by simp
  have hp := bytesWorld_only w1 5 s
  refine (show Calls Try.prog 123 #[.pointer (some ⟨B, 0, none⟩), .slice (some ⟨w1.heap.size, 0, none⟩) s.data.toList.length (grownCap w1 s.size 0 5)] _ _ from
    raw_any B r1 (bs ++ num s.size) s.data.toList _ _ (Lib.bytesWorld w1 5 s) (hw1.only hp id (fun _ _ => id)) (bytesWorld_lies w1 5 s) (by rw [List.length_append, hs]; omega)).mono ?_
  rintro e w2 ⟨rfl, hto2⟩
  go_wp2
  go_end0
  refine ⟨rfl, ?_⟩
  rw [← List.append_assoc]
  refine hto.trans hr1 ⟨?_, (hp.mono (fun _ _ h => h.elim)).trans hto2.only (fun _ _ h => h)⟩
  obtain ⟨r2, h2, hr2⟩ := hto2.now
  exact ⟨r2, h2, hr2.imp id (fun ⟨k, e, hk⟩ => ⟨k, e, Nat.le_trans hp.size hk⟩)⟩
theorem bytes_any (B : Nat) (r : Option Nat) (bs : List UInt8) (w : World) (hw : Wr w B r bs) (hlen : bs.length ≤ 1099511627776) :
    Calls Try.prog 70 #[.pointer (some ⟨B, 0, none⟩)] w fun e w' => ∃ z, Made w w' 5 1 bs.length (ub bs) z e := by
  obtain ⟨a1, cap1, hb, hrow, hr⟩ := hw
  have hc := hb.cell (i := 0) rfl
  clear hr
  go_enter Try.func70, Try.ntmps70
  go_wp2_with fail
  refine (clone_bytes a1 cap1 bs _ hrow.lies hlen).mono ?_
  rintro e w1 ⟨⟨a2, cap2, rfl, hrow2, h1, h2⟩, ho⟩
  go_wp2
  go_ret
  exact ⟨_, ⟨a2, cap2, rfl, hrow2, h1, h2⟩, ho⟩
end Go.Proofs.Ytchmcjimnliodaa
