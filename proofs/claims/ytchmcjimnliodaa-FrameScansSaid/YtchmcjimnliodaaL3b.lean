/- complinelaw03.FrameScans: its code's conditions, the first range. -/
import Derived.Test.YtchmcjimnliodaaL3a
namespace Go.Proofs.Ytchmcjimnliodaa
open Go Go.RowKit
set_option maxRecDepth 10000
set_option linter.unusedSimpArgs false
set_option linter.unusedVariables false

/-- The iterator's own memory. -/
def scanI (s0 : BitVec 32) (b : List UInt8) (B1 B2 : Nat) (a : Option Addr) (cap : Nat) : It :=
  .gen (scanT B1 B2 a) (fun w => ScanEnv w s0 b B1 B2 a cap) (fun _ _ h hz k => k.keep ⟨hz, h⟩)
theorem scan_ret {w : World} (s0 : BitVec 32) {a : Option Addr} {cap n : Nat} (b : List UInt8) (hn : b.length = n) (hl : Lies w a (ub b)) (hlen : n ≤ 1048576) {K : Value → World → Prop}
    (k : ∀ (w' : World) (B1 B2 : Nat) (a' : Option Addr) (cap' : Nat), Pure w w' → (scanI s0 b B1 B2 a' cap').ok w' → (∀ q, (scanI s0 b B1 B2 a' cap').fp q → w.heap.size ≤ q) → K (.func (.func 62) #[] #[.pointer (some ⟨B1, 0, none⟩), .pointer (some ⟨B2, 0, none⟩)]) w') :
    Ret Try.prog 16 #[.int .u32 s0.toNat, .slice a n cap] w K := by
  subst hn
  refine Ret.mk Try.call16 ((scan_any s0 a cap b w hl hlen).mono ?_)
  rintro e w' ⟨B1, B2, a', cap', rfl, h1, h2, hp⟩
  exact ⟨_, rfl, k w' B1 B2 a' cap' hp ⟨h1, fun q hq => (h2 q hq).2⟩ (fun q hq => (h2 q hq).1)⟩
def scanEncs (x : ScanIt) : List Value := [.int .i64 x.at_, .agg #[.int .u8 x.r.k.toNat, .slice x.a x.r.d.length x.cap]]
theorem scan_seq (s0 : BitVec 32) (b : List UInt8) {B1 B2 : Nat} {a : Option Addr} {cap : Nat} (base : Nat) {W : World} (h : (scanI s0 b B1 B2 a cap).ok W) (hb : base ≤ W.heap.size) (hlen : b.length ≤ 1048576) :
    SqAt 0 Try.prog 62 #[.pointer (some ⟨B1, 0, none⟩), .pointer (some ⟨B2, 0, none⟩)] (fun x => (scanEncs x).toArray) (scanI s0 b B1 B2 a cap).fp (scanPin s0 b base) (fun xs => xs.map ScanIt.strip = (scan s0 0 b).1) (fun pre => pre.map ScanIt.strip <+: (scan s0 0 b).1) W :=
  (scan1_sq 0 s0 b B1 B2 a cap W h.1 hlen).weak fun pre x W h => ⟨h.1, fun k hk => Nat.le_trans hb (h.2.1 k hk), h.2.2⟩
theorem scan_count3 (s : BitVec 32) (at_ : Nat) (b : List UInt8) : (scan s at_ b).1.length ≤ b.length := by
  obtain ⟨n, hn⟩ : ∃ n, b.length = n := ⟨_, rfl⟩
  induction n using Nat.strongRecOn generalizing s at_ b with
  | _ n ih =>
    cases hN : nxt s b with
    | error e => rw [scan_err hN]; simp
    | ok v =>
      obtain ⟨r, m, s'⟩ := v
      have h := nxt_len hN
      rw [scan_ok hN]
      have := ih (b.drop m).length (by simp; omega) s' (at_ + m) (b.drop m) rfl
      simp at this ⊢
      omega
section
variable {w0 w : World} {al ab : Option Addr} {capl capb n m : Nat} {xs : List RecAt} {l : List Rec} {bh : List UInt8} {seed : BitVec 32} {cut at_ : Nat} {y : UInt8}
theorem same_ret {w : World} {k1 k2 : UInt8} {d1 d2 : List UInt8} {a1 a2 : Option Addr} {c1 c2 : Nat} (h1 : Lies w a1 (ub d1)) (h2 : Lies w a2 (ub d2)) {K : Value → World → Prop} (k : ∀ w', Pure w w' → K (.bool (k1 == k2 && d1 == d2)) w') :
    Ret Try.prog 17 #[.agg #[.int .u8 k1.toNat, .slice a1 d1.length c1], .agg #[.int .u8 k2.toNat, .slice a2 d2.length c2]] w K :=
  Ret.mk Try.call17 ((same_any k1 k2 d1 d2 a1 a2 c1 c2 w h1 h2).mono (by rintro e w' ⟨rfl, hp⟩; exact ⟨_, rfl, k w' hp⟩))
theorem lnext_ret {w : World} (s : BitVec 32) {a : Option Addr} {n cap : Nat} (b : List UInt8) (hn : b.length = n) (hl : Lies w a (ub b)) (hcap : n ≤ cap) (hcap2 : cap ≤ maxLen) (hlen : n ≤ 1048576) {K : Value → World → Prop}
    (k1 : ∀ (r : Rec) (cnt : Nat) (s' : BitVec 32) (w' : World) (a' : Option Addr) (cap' : Nat), nxt s b = .ok (r, cnt, s') → Pure w w' → Lies w' a' (ub r.d) → ablk a' = ablk a → K (.tuple #[.agg #[.int .u8 r.k.toNat, .slice a' r.d.length cap'], .int .i64 cnt, .int .u32 s'.toNat, .int .i64 0]) w')
    (k2 : ∀ (er : Int) (w' : World), nxt s b = .error er → Pure w w' → K (.tuple #[.agg #[.int .u8 0, .slice none 0 0], .int .i64 0, .int .u32 0, .int .i64 er]) w') :
    Ret Try.prog 18 #[.int .u32 s.toNat, .slice a n cap] w K := by
  refine Ret.mk Try.call18 ((lnext_any s a n cap b w hn hl hcap hcap2 hlen).mono ?_)
  rintro e w' ⟨hp, h⟩
  cases hN : nxt s b with
  | error er => rw [hN] at h; exact ⟨_, h, k2 er w' hN hp⟩
  | ok v =>
    obtain ⟨r, cnt, s'⟩ := v
    rw [hN] at h
    obtain ⟨a', cap', h1, h2, h3⟩ := h
    exact ⟨_, h1, k1 r cnt s' w' a' cap' hN hp h2 h3⟩
/-- Behind the first range. -/
def T9 (w0 : World) (al ab : Option Addr) (capl capb n m : Nat) (xs : List RecAt) (l : List Rec) (bh : List UInt8) (seed : BitVec 32) (cut at_ : Nat) (y : UInt8) : Prop :=
  ∀ (w : World) (a : Option Addr) (cap : Nat) (a14 : Option Addr) (cap14 : Nat) (a5 : Option Addr) (cap5 B14 B12 B7 B20 B21 B22 B23 D pl endp : Nat) (last : BitVec 32), (∀ r ∈ l, r.d.length ≤ 100) → w0.heap.size ≤ D → n ≤ pl →
    (scan seed 0 (chain seed l ++ bh)).2 = (endp, last) → (∃ e, nxt last ((chain seed l ++ bh).drop endp) = .error e) → endp ≤ (chain seed l ++ bh).length →
    Hp (fun _ => False) w0 w [dfr D, .blk B23 #[.int .i64 pl] 3, .blk B22 #[.int .u32 last.toNat] 22, .blk B21 #[.int .i64 endp] 3, .blk B20 #[.slice a5 (chain seed l ++ bh).length cap5] 24, .row 5 1 a5 (chain seed l ++ bh).length cap5 (ub (chain seed l ++ bh)),
      .row 5 1 a (chain seed l).length cap (ub (chain seed l)), .row 3 1 a14 n cap14 (ints (heads seed l n)), .blk B14 #[.slice a14 n cap14] 27, .blk B12 #[.bool false] 4, .blk B7 #[.slice al n capl] 23] →
    c3_9 (.pointer (some ⟨B20, 0, none⟩)) (.int .u32 seed.toNat) (.pointer (some ⟨B21, 0, none⟩)) (.pointer (some ⟨B22, 0, none⟩)) (.pointer (some ⟨B23, 0, none⟩)) (.pointer (some ⟨B7, 0, none⟩)) (.pointer (some ⟨B12, 0, none⟩)) (.int .u16 cut)
      (.slice a (chain seed l).length cap) (.int .u8 y.toNat) (.int .u16 at_) (.pointer (some ⟨B14, 0, none⟩)) D (LR w0) w
/-- The first range's word. -/
abbrev LJ (n : Nat) (a14 : Option Addr) (cap14 : Nat) (a : Option Addr) (cap : Nat) (al : Option Addr) (capl : Nat) (a5 : Option Addr) (cap5 B7 B12 B14 B20 B21 B22 B23 : Nat) (l : List Rec) (seed : BitVec 32) (A : List UInt8) (k endp : Nat) (last : BitVec 32) : List It :=
  [.blk B23 #[.int .i64 k] 3, .blk B22 #[.int .u32 last.toNat] 22, .blk B21 #[.int .i64 endp] 3, .blk B20 #[.slice a5 A.length cap5] 24, .row 5 1 a5 A.length cap5 (ub A),
      .row 5 1 a (chain seed l).length cap (ub (chain seed l)), .row 3 1 a14 n cap14 (ints (heads seed l n)), .blk B14 #[.slice a14 n cap14] 27, .blk B12 #[.bool false] 4, .blk B7 #[.slice al n capl] 23]
def J3 (n : Nat) (a14 : Option Addr) (cap14 : Nat) (a : Option Addr) (cap : Nat) (al : Option Addr) (capl : Nat) (a5 : Option Addr) (cap5 B7 B12 B14 B20 B21 B22 B23 : Nat) (l : List Rec) (seed : BitVec 32) (A : List UInt8) (pre : List ScanIt) (L : List It) : Prop :=
  ∃ (endp : Nat) (last : BitVec 32), L = LJ n a14 cap14 a cap al capl a5 cap5 B7 B12 B14 B20 B21 B22 B23 l seed A pre.length endp last ∧
      (pre.length ≤ n → endp = (chain seed l).length ∧ last = chainSum seed l) ∧ (n ≤ pre.length → Beyond seed A (pre.map ScanIt.strip) endp last) ∧ endp ≤ A.length ∧ pre.map ScanIt.strip <+: (scan seed 0 A).1
set_option maxHeartbeats 2000000 in
theorem b2 {base n : Nat} {a14 : Option Addr} {cap14 : Nat} {a : Option Addr} {cap : Nat} {al : Option Addr} {capl : Nat} {a5 : Option Addr} {cap5 B7 B12 B14 B20 B21 B22 B23 B25 S1 S2 cap6 endp : Nat} {a6 : Option Addr} {seed last : BitVec 32} {A : List UInt8} {w0 Wb W2 : World} {pre : List ScanIt} {x : ScanIt}
    (hi : In3 w0 al ab capl capb n m xs l bh) (h20 : n ≤ 20) (hsc : scan seed 0 A = ((starts seed 0 l).zip l ++ (scan (chainSum seed l) (chain seed l).length bh).fst, (scan (chainSum seed l) (chain seed l).length bh).snd)) (hAs : A.length ≤ 2380) (hA : A = chain seed l ++ bh) (hd1024 : ∀ r ∈ l, r.d.length ≤ 1024)
    (H2 : Hp (fun _ => False) w0 W2 [scanI seed A S1 S2 a6 cap6, .blk B25 #[.int .u8 x.r.k.toNat, .slice x.a x.r.d.length x.cap] 29, .row 5 1 x.a x.r.d.length x.cap (ub x.r.d), .blk B23 #[.int .i64 pre.length] 3, .blk B22 #[.int .u32 last.toNat] 22, .blk B21 #[.int .i64 endp] 3,
      .blk B20 #[.slice a5 A.length cap5] 24, .row 5 1 a5 A.length cap5 (ub A), .row 5 1 a (chain seed l).length cap (ub (chain seed l)), .row 3 1 a14 n cap14 (ints (heads seed l n)), .blk B14 #[.slice a14 n cap14] 27, .blk B12 #[.bool false] 4, .blk B7 #[.slice al n capl] 23])
    (hsl : (scanI seed A S1 S2 a6 cap6).low base) (hz : base ≤ Wb.heap.size) (hz2 : Wb.heap.size ≤ W2.heap.size) (hT : ∀ q, (scanI seed A S1 S2 a6 cap6).fp q → W2.heap[q]? = Wb.heap[q]?)
    (h1 : pre.length ≤ n → endp = (chain seed l).length ∧ last = chainSum seed l) (h2 : n ≤ pre.length → Beyond seed A (pre.map ScanIt.strip) endp last) (h3 : endp ≤ A.length) (hpre : (pre ++ [x]).map ScanIt.strip <+: (scan seed 0 A).1) (hx : x.r.d.length ≤ 1024) :
    c3_2 (.pointer (some ⟨B23, 0, none⟩)) (.pointer (some ⟨B7, 0, none⟩)) (.pointer (some ⟨B14, 0, none⟩)) (.int .i64 x.at_) (.pointer (some ⟨B25, 0, none⟩)) (.pointer (some ⟨B12, 0, none⟩)) (.pointer (some ⟨B21, 0, none⟩)) (.pointer (some ⟨B22, 0, none⟩)) (.pointer (some ⟨B20, 0, none⟩))
      (rPost base (scanI seed A S1 S2 a6 cap6).fp (rI (fun _ => False) w0 base (scanI seed A S1 S2 a6 cap6) (J3 n a14 cap14 a cap al capl a5 cap5 B7 B12 B14 B20 B21 B22 B23 l seed A)) (rX (fun _ => False) w0 (scanI seed A S1 S2 a6 cap6) fun _ _ _ => False) (pre ++ [x])) Wb W2 := by
  have hln := hi.len
  have HR := H2.round (base := base) (by repeat (first | exact fun _ hh => absurd hh List.not_mem_nil | (refine List.forall_mem_cons.2 ⟨(by first | exact hsl | exact trivial), ?_⟩)))
  have hin : Recs W2 al xs := hi.hl.pure H2.only
  have H := HR
  have hpl : pre.length ≤ 2380 := by
    have := hpre.length_le
    have h4 := scan_count3 seed 0 A
    simp at this
    omega
  have hpre' : pre.map ScanIt.strip ++ [x.strip] <+: (scan seed 0 A).1 := by simpa using hpre
  unfold c3_2
  repeat (first | ((first | refine val_box H ?_ | refine val_alloc H (fun w => by simp [go_sem]; rfl) ?_); clear H; intro B w hB hp H; clear hB hp; try simp only [List.set_cons_zero, List.set_cons_succ, List.setIfInBounds_toArray, Value.cells] at H) | (first | refine val_ld H (fun w => by simp [go_sem]) (by with_reducible repeat (first | exact At.zero | apply At.succ)) (by rfl) ?_ | refine rd_ld H (fun w => by simp [go_sem]) (by with_reducible repeat (first | exact At.zero | apply At.succ)) (by rfl) ?_ | refine val_ldB H (by with_reducible repeat (first | exact At.zero | apply At.succ)) (aggT (by kernel_rfl)) ?_ | refine rd_ldB H (by with_reducible repeat (first | exact At.zero | apply At.succ)) (aggT (by kernel_rfl)) ?_) | ((first | refine unt_st H (by with_reducible repeat (first | exact At.zero | apply At.succ)) (fun w => by simp [go_sem]) (by rfl) (by rfl) ?_ | refine unt_stB H (by with_reducible repeat (first | exact At.zero | apply At.succ)) (aggT (by kernel_rfl)) (by rfl) (by rfl) ?_); clear H; intro w ho H; clear ho; try simp only [List.set_cons_zero, List.set_cons_succ, List.setIfInBounds_toArray, Value.cells] at H) | (refine val_at_bs ?_; ((refine val_run (by simp [go_sem]; (try simp (disch := omega) only [w_i64, w_u64, w_u32, w_u16, w_u8, w_i32]); rfl) ?_); refine onOk_bs H ?_; clear H; intro B w hB hp H; clear hB hp; try simp only [List.set_cons_zero, List.set_cons_succ, List.setIfInBounds_toArray, Value.cells] at H)) | (first | (refine val_run (by simp [bin, nilc, go_sem]; (try simp (disch := omega) only [w_i64, w_u64, w_u32, w_u16, w_u8, w_i32]); rfl) ?_; refine onOk_in ?_) | (refine pu_run (fun w => by simp [bin, nilc, go_sem]; (try simp (disch := omega) only [w_i64, w_u64, w_u32, w_u16, w_u8, w_i32]); rfl) ?_; refine puR_in ?_)) | (refine tk_at_in ?_) | (refine ph_at ?_) | (refine ph_pure H.only ?_) | (refine ph_pure (hpT.trans H.only (fun _ _ k => k)) ?_) | (refine tk_pld H (fun w => by simp [go_sem]) (by with_reducible repeat (first | exact At.zero | apply At.succ)) (by rfl) ?_) | (refine tk_pldB H (by with_reducible repeat (first | exact At.zero | apply At.succ)) (aggT (by kernel_rfl)) ?_) | (refine gd_true_in ?_) | (refine gd_false_in ?_) | (refine gd_true_in' ?_) | (refine gd_false_in' ?_))
  refine gd_dec (fun hlt => ?_) (fun hlt => ?_)
  · have hlt0 : pre.length < n := by omega
    have hlt' : (pre.length : Int) < (n : Int) := by omega
    have hlx : pre.length < xs.length := by rw [hi.hn]; omega
    have hll : pre.length < l.length := by omega
    have hlk : l[pre.length] = (xs[pre.length]).r := by have := hi.hx; subst this; simp
    have hxs : x.strip = (pos seed l pre.length, l[pre.length]) := by
      rw [hsc] at hpre'
      have := pre_at hpre' (by simpa using hll)
      simpa using this
    have hat : x.at_ = pos seed l pre.length := congrArg Prod.fst hxs
    have hxr : x.r = (xs[pre.length]).r := by rw [← hlk]; exact congrArg Prod.snd hxs
    obtain ⟨b14, rfl, hb14⟩ := (H.ok (.row 3 1 a14 n cap14 _) (At.mem (by with_reducible repeat (first | exact At.zero | apply At.succ))) : Row W2 3 1 a14 n cap14 _).addr (by omega)
    obtain ⟨bx, ox, rfl, _⟩ := hi.hl.addr hlx
    refine drw_in H fun w1 hp H => ?_
    repeat (first | ((first | refine val_box H ?_ | refine val_alloc H (fun w => by simp [go_sem]; rfl) ?_); clear H; intro B w hB hp H; clear hB hp; try simp only [List.set_cons_zero, List.set_cons_succ, List.setIfInBounds_toArray, Value.cells] at H) | (first | refine val_ld H (fun w => by simp [go_sem]) (by with_reducible repeat (first | exact At.zero | apply At.succ)) (by rfl) ?_ | refine rd_ld H (fun w => by simp [go_sem]) (by with_reducible repeat (first | exact At.zero | apply At.succ)) (by rfl) ?_ | refine val_ldB H (by with_reducible repeat (first | exact At.zero | apply At.succ)) (aggT (by kernel_rfl)) ?_ | refine rd_ldB H (by with_reducible repeat (first | exact At.zero | apply At.succ)) (aggT (by kernel_rfl)) ?_) | ((first | refine unt_st H (by with_reducible repeat (first | exact At.zero | apply At.succ)) (fun w => by simp [go_sem]) (by rfl) (by rfl) ?_ | refine unt_stB H (by with_reducible repeat (first | exact At.zero | apply At.succ)) (aggT (by kernel_rfl)) (by rfl) (by rfl) ?_); clear H; intro w ho H; clear ho; try simp only [List.set_cons_zero, List.set_cons_succ, List.setIfInBounds_toArray, Value.cells] at H) | (refine val_at_bs ?_; ((refine val_run (by simp [go_sem]; (try simp (disch := omega) only [w_i64, w_u64, w_u32, w_u16, w_u8, w_i32]); rfl) ?_); refine onOk_bs H ?_; clear H; intro B w hB hp H; clear hB hp; try simp only [List.set_cons_zero, List.set_cons_succ, List.setIfInBounds_toArray, Value.cells] at H)) | (first | (refine val_run (by simp [bin, nilc, go_sem, hlt']; (try simp (disch := omega) only [w_i64, w_u64, w_u32, w_u16, w_u8, w_i32]); rfl) ?_; refine onOk_in ?_) | (refine pu_run (fun w => by simp [bin, nilc, go_sem, hlt']; (try simp (disch := omega) only [w_i64, w_u64, w_u32, w_u16, w_u8, w_i32]); rfl) ?_; refine puR_in ?_)) | (refine tk_at_in ?_) | (refine ph_at ?_) | (refine ph_pure H.only ?_) | (refine ph_pure (hpT.trans H.only (fun _ _ k => k)) ?_) | (refine tk_pld H (fun w => by simp [go_sem]) (by with_reducible repeat (first | exact At.zero | apply At.succ)) (by rfl) ?_) | (refine tk_pldB H (by with_reducible repeat (first | exact At.zero | apply At.succ)) (aggT (by kernel_rfl)) ?_) | (refine gd_true_in ?_) | (refine gd_false_in ?_) | (refine gd_true_in' ?_) | (refine gd_false_in' ?_))
    (first | refine val_ldr H (fun w => by simp [go_sem]) (by with_reducible repeat (first | exact At.zero | apply At.succ)) (ints_at (heads_at seed l hlt0)) ?_ | (refine tk_at_in ?_; refine rd_ldr H (fun w => by simp [go_sem]) (by with_reducible repeat (first | exact At.zero | apply At.succ)) (ints_at (heads_at seed l hlt0)) ?_) | refine rd_ldr H (fun w => by simp [go_sem]) (by with_reducible repeat (first | exact At.zero | apply At.succ)) (ints_at (heads_at seed l hlt0)) ?_)
    rw [hat]
    repeat (first | ((first | refine val_box H ?_ | refine val_alloc H (fun w => by simp [go_sem]; rfl) ?_); clear H; intro B w hB hp H; clear hB hp; try simp only [List.set_cons_zero, List.set_cons_succ, List.setIfInBounds_toArray, Value.cells] at H) | (first | refine val_ld H (fun w => by simp [go_sem]) (by with_reducible repeat (first | exact At.zero | apply At.succ)) (by rfl) ?_ | refine rd_ld H (fun w => by simp [go_sem]) (by with_reducible repeat (first | exact At.zero | apply At.succ)) (by rfl) ?_ | refine val_ldB H (by with_reducible repeat (first | exact At.zero | apply At.succ)) (aggT (by kernel_rfl)) ?_ | refine rd_ldB H (by with_reducible repeat (first | exact At.zero | apply At.succ)) (aggT (by kernel_rfl)) ?_) | ((first | refine unt_st H (by with_reducible repeat (first | exact At.zero | apply At.succ)) (fun w => by simp [go_sem]) (by rfl) (by rfl) ?_ | refine unt_stB H (by with_reducible repeat (first | exact At.zero | apply At.succ)) (aggT (by kernel_rfl)) (by rfl) (by rfl) ?_); clear H; intro w ho H; clear ho; try simp only [List.set_cons_zero, List.set_cons_succ, List.setIfInBounds_toArray, Value.cells] at H) | (refine val_at_bs ?_; ((refine val_run (by simp [go_sem]; (try simp (disch := omega) only [w_i64, w_u64, w_u32, w_u16, w_u8, w_i32]); rfl) ?_); refine onOk_bs H ?_; clear H; intro B w hB hp H; clear hB hp; try simp only [List.set_cons_zero, List.set_cons_succ, List.setIfInBounds_toArray, Value.cells] at H)) | (first | (refine val_run (by simp [bin, nilc, go_sem, hlt']; (try simp (disch := omega) only [w_i64, w_u64, w_u32, w_u16, w_u8, w_i32]); rfl) ?_; refine onOk_in ?_) | (refine pu_run (fun w => by simp [bin, nilc, go_sem, hlt']; (try simp (disch := omega) only [w_i64, w_u64, w_u32, w_u16, w_u8, w_i32]); rfl) ?_; refine puR_in ?_)) | (refine tk_at_in ?_) | (refine ph_at ?_) | (refine ph_pure H.only ?_) | (refine ph_pure (hpT.trans H.only (fun _ _ k => k)) ?_) | (refine tk_pld H (fun w => by simp [go_sem]) (by with_reducible repeat (first | exact At.zero | apply At.succ)) (by rfl) ?_) | (refine tk_pldB H (by with_reducible repeat (first | exact At.zero | apply At.succ)) (aggT (by kernel_rfl)) ?_) | (refine gd_true_in ?_) | (refine gd_false_in ?_) | (refine gd_true_in' ?_) | (refine gd_false_in' ?_))
    refine rd_ldl (aggT (by kernel_rfl)) (xs := [.int .u8 (xs[pre.length]).r.k.toNat, .slice (xs[pre.length]).a (xs[pre.length]).r.d.length (xs[pre.length]).cap]) rfl ((hin.pure hp).rec hlx) ?_
    have hxx : Lies w1 (xs[pre.length]).a (ub (xs[pre.length]).r.d) := (hin.pure hp).2 _ (List.getElem_mem hlx)
    refine same_ret (H.ok (.row 5 1 x.a _ x.cap _) (At.mem (by with_reducible repeat (first | exact At.zero | apply At.succ))) : Row w1 5 1 x.a x.r.d.length x.cap (ub x.r.d)).lies hxx fun w2 hp2 => ?_
    replace H := H.pure hp2
    have e1 : (x.r.k == (xs[pre.length]).r.k && x.r.d == (xs[pre.length]).r.d) = true := by rw [hxr]; simp
    rw [e1]
    clear hp hp2
    repeat (first | ((first | refine val_box H ?_ | refine val_alloc H (fun w => by simp [go_sem]; rfl) ?_); clear H; intro B w hB hp H; clear hB hp; try simp only [List.set_cons_zero, List.set_cons_succ, List.setIfInBounds_toArray, Value.cells] at H) | (first | refine val_ld H (fun w => by simp [go_sem]) (by with_reducible repeat (first | exact At.zero | apply At.succ)) (by rfl) ?_ | refine rd_ld H (fun w => by simp [go_sem]) (by with_reducible repeat (first | exact At.zero | apply At.succ)) (by rfl) ?_ | refine val_ldB H (by with_reducible repeat (first | exact At.zero | apply At.succ)) (aggT (by kernel_rfl)) ?_ | refine rd_ldB H (by with_reducible repeat (first | exact At.zero | apply At.succ)) (aggT (by kernel_rfl)) ?_) | ((first | refine unt_st H (by with_reducible repeat (first | exact At.zero | apply At.succ)) (fun w => by simp [go_sem]) (by rfl) (by rfl) ?_ | refine unt_stB H (by with_reducible repeat (first | exact At.zero | apply At.succ)) (aggT (by kernel_rfl)) (by rfl) (by rfl) ?_); clear H; intro w ho H; clear ho; try simp only [List.set_cons_zero, List.set_cons_succ, List.setIfInBounds_toArray, Value.cells] at H) | (refine val_at_bs ?_; ((refine val_run (by simp [go_sem]; (try simp (disch := omega) only [w_i64, w_u64, w_u32, w_u16, w_u8, w_i32]); rfl) ?_); refine onOk_bs H ?_; clear H; intro B w hB hp H; clear hB hp; try simp only [List.set_cons_zero, List.set_cons_succ, List.setIfInBounds_toArray, Value.cells] at H)) | (first | (refine val_run (by simp [bin, nilc, go_sem]; (try simp (disch := omega) only [w_i64, w_u64, w_u32, w_u16, w_u8, w_i32]); rfl) ?_; refine onOk_in ?_) | (refine pu_run (fun w => by simp [bin, nilc, go_sem]; (try simp (disch := omega) only [w_i64, w_u64, w_u32, w_u16, w_u8, w_i32]); rfl) ?_; refine puR_in ?_)) | (refine tk_at_in ?_) | (refine ph_at ?_) | (refine ph_pure H.only ?_) | (refine ph_pure (hpT.trans H.only (fun _ _ k => k)) ?_) | (refine tk_pld H (fun w => by simp [go_sem]) (by with_reducible repeat (first | exact At.zero | apply At.succ)) (by rfl) ?_) | (refine tk_pldB H (by with_reducible repeat (first | exact At.zero | apply At.succ)) (aggT (by kernel_rfl)) ?_) | (refine gd_true_in ?_) | (refine gd_false_in ?_) | (refine gd_true_in' ?_) | (refine gd_false_in' ?_))
    have ec : ((pre.length : Int) + 1) = ((pre.length + 1 : Nat) : Int) := by omega
    rw [ec] at H
    refine round_normal H2 H hz2 hz hT (L3 := LJ n (some ⟨b14, 0, none⟩) cap14 a cap (some ⟨bx, ox, none⟩) capl a5 cap5 B7 B12 B14 B20 B21 B22 B23 l seed A (pre.length + 1) endp last) (by (try simp only [List.cons_append, List.nil_append]); with_reducible repeat (first | exact List.Sublist.slnil | apply List.Sublist.cons_cons | apply List.Sublist.cons)) ⟨endp, last, by simp, fun _ => h1 (by omega), fun h => ?_, h3, hpre⟩
    have hk : pre.length + 1 = n := by simp at h; omega
    obtain ⟨rfl, rfl⟩ := h1 (by omega)
    rw [hA] at hpre ⊢
    exact Beyond.first hd1024 hpre (by simp; omega)
  · have hge : n ≤ pre.length := by omega
    have hB := h2 hge
    obtain ⟨cnt, s', hN, hxe, hB'⟩ := hB.next hpre'
    replace hN : nxt last (A.drop endp) = .ok (x.r, cnt, s') := hN
    have hlN := nxt_len hN
    rw [List.length_drop] at hlN
    obtain ⟨b5, rfl, hb5⟩ := (H.ok (.row 5 1 a5 A.length cap5 _) (At.mem (by with_reducible repeat (first | exact At.zero | apply At.succ))) : Row W2 5 1 a5 A.length cap5 _).addr (by omega)
    have hA5 : A.length ≤ cap5 ∧ cap5 ≤ maxLen := by
      have := (H.ok (.row 5 1 (some ⟨b5, 0, none⟩) A.length cap5 (ub A)) (At.mem (by with_reducible repeat (first | exact At.zero | apply At.succ))) : Row W2 5 1 (some ⟨b5, 0, none⟩) A.length cap5 (ub A))
      exact ⟨this.2.1, this.2.2.1⟩
    refine join4 (fun p v c e W => ∃ (B26 : Nat) (a7 : Option Addr) (cap7 : Nat), p = .pointer (some ⟨B26, 0, none⟩) ∧ v = .int .i64 cnt ∧ c = .int .u32 s'.toNat ∧ e = .int .i64 0 ∧ Lies W a7 (ub x.r.d) ∧
      Hp (rS (fun _ => False) w0 base (scanI seed A S1 S2 a6 cap6).fp W2) W2 W (.blk B26 #[.int .u8 x.r.k.toNat, .slice a7 x.r.d.length cap7] 29 :: .blk B25 #[.int .u8 x.r.k.toNat, .slice x.a x.r.d.length x.cap] 29 :: .row 5 1 x.a x.r.d.length x.cap (ub x.r.d) ::
        LJ n a14 cap14 a cap al capl (some ⟨b5, 0, none⟩) cap5 B7 B12 B14 B20 B21 B22 B23 l seed A pre.length endp last)) ?_ ?_
    · rintro _ _ _ _ w ⟨B26, a7, cap7, rfl, rfl, rfl, rfl, hl7, H⟩
      simp only [LJ] at H
      unfold c3_1
      have hat : x.at_ = endp := hxe
      have hxr1 : x.strip.2 = x.r := rfl
      rw [hat]
      repeat (first | ((first | refine val_box H ?_ | refine val_alloc H (fun w => by simp [go_sem]; rfl) ?_); clear H; intro B w hB hp H; clear hB hp; try simp only [List.set_cons_zero, List.set_cons_succ, List.setIfInBounds_toArray, Value.cells] at H) | (first | refine val_ld H (fun w => by simp [go_sem]) (by with_reducible repeat (first | exact At.zero | apply At.succ)) (by rfl) ?_ | refine rd_ld H (fun w => by simp [go_sem]) (by with_reducible repeat (first | exact At.zero | apply At.succ)) (by rfl) ?_ | refine val_ldB H (by with_reducible repeat (first | exact At.zero | apply At.succ)) (aggT (by kernel_rfl)) ?_ | refine rd_ldB H (by with_reducible repeat (first | exact At.zero | apply At.succ)) (aggT (by kernel_rfl)) ?_) | ((first | refine unt_st H (by with_reducible repeat (first | exact At.zero | apply At.succ)) (fun w => by simp [go_sem]) (by rfl) (by rfl) ?_ | refine unt_stB H (by with_reducible repeat (first | exact At.zero | apply At.succ)) (aggT (by kernel_rfl)) (by rfl) (by rfl) ?_); clear H; intro w ho H; clear ho; try simp only [List.set_cons_zero, List.set_cons_succ, List.setIfInBounds_toArray, Value.cells] at H) | (refine val_at_bs ?_; ((refine val_run (by simp [go_sem]; (try simp (disch := omega) only [w_i64, w_u64, w_u32, w_u16, w_u8, w_i32]); rfl) ?_); refine onOk_bs H ?_; clear H; intro B w hB hp H; clear hB hp; try simp only [List.set_cons_zero, List.set_cons_succ, List.setIfInBounds_toArray, Value.cells] at H)) | (first | (refine val_run (by simp [bin, nilc, go_sem]; (try simp (disch := omega) only [w_i64, w_u64, w_u32, w_u16, w_u8, w_i32]); rfl) ?_; refine onOk_in ?_) | (refine pu_run (fun w => by simp [bin, nilc, go_sem]; (try simp (disch := omega) only [w_i64, w_u64, w_u32, w_u16, w_u8, w_i32]); rfl) ?_; refine puR_in ?_)) | (refine tk_at_in ?_) | (refine ph_at ?_) | (refine ph_pure H.only ?_) | (refine ph_pure (hpT.trans H.only (fun _ _ k => k)) ?_) | (refine tk_pld H (fun w => by simp [go_sem]) (by with_reducible repeat (first | exact At.zero | apply At.succ)) (by rfl) ?_) | (refine tk_pldB H (by with_reducible repeat (first | exact At.zero | apply At.succ)) (aggT (by kernel_rfl)) ?_) | (refine gd_true_in ?_) | (refine gd_false_in ?_) | (refine gd_true_in' ?_) | (refine gd_false_in' ?_))
      refine same_ret (H.ok (.row 5 1 x.a _ x.cap _) (At.mem (by with_reducible repeat (first | exact At.zero | apply At.succ))) : Row w 5 1 x.a x.r.d.length x.cap (ub x.r.d)).lies hl7 fun w2 hp2 => ?_
      replace H := H.pure hp2
      have e1 : (x.r.k == x.r.k && x.r.d == x.r.d) = true := by simp
      rw [e1]
      clear hp2
      repeat (first | ((first | refine val_box H ?_ | refine val_alloc H (fun w => by simp [go_sem]; rfl) ?_); clear H; intro B w hB hp H; clear hB hp; try simp only [List.set_cons_zero, List.set_cons_succ, List.setIfInBounds_toArray, Value.cells] at H) | (first | refine val_ld H (fun w => by simp [go_sem]) (by with_reducible repeat (first | exact At.zero | apply At.succ)) (by rfl) ?_ | refine rd_ld H (fun w => by simp [go_sem]) (by with_reducible repeat (first | exact At.zero | apply At.succ)) (by rfl) ?_ | refine val_ldB H (by with_reducible repeat (first | exact At.zero | apply At.succ)) (aggT (by kernel_rfl)) ?_ | refine rd_ldB H (by with_reducible repeat (first | exact At.zero | apply At.succ)) (aggT (by kernel_rfl)) ?_) | ((first | refine unt_st H (by with_reducible repeat (first | exact At.zero | apply At.succ)) (fun w => by simp [go_sem]) (by rfl) (by rfl) ?_ | refine unt_stB H (by with_reducible repeat (first | exact At.zero | apply At.succ)) (aggT (by kernel_rfl)) (by rfl) (by rfl) ?_); clear H; intro w ho H; clear ho; try simp only [List.set_cons_zero, List.set_cons_succ, List.setIfInBounds_toArray, Value.cells] at H) | (refine val_at_bs ?_; ((refine val_run (by simp [go_sem]; (try simp (disch := omega) only [w_i64, w_u64, w_u32, w_u16, w_u8, w_i32]); rfl) ?_); refine onOk_bs H ?_; clear H; intro B w hB hp H; clear hB hp; try simp only [List.set_cons_zero, List.set_cons_succ, List.setIfInBounds_toArray, Value.cells] at H)) | (first | (refine val_run (by simp [bin, nilc, go_sem]; (try simp (disch := omega) only [w_i64, w_u64, w_u32, w_u16, w_u8, w_i32]); rfl) ?_; refine onOk_in ?_) | (refine pu_run (fun w => by simp [bin, nilc, go_sem]; (try simp (disch := omega) only [w_i64, w_u64, w_u32, w_u16, w_u8, w_i32]); rfl) ?_; refine puR_in ?_)) | (refine tk_at_in ?_) | (refine ph_at ?_) | (refine ph_pure H.only ?_) | (refine ph_pure (hpT.trans H.only (fun _ _ k => k)) ?_) | (refine tk_pld H (fun w => by simp [go_sem]) (by with_reducible repeat (first | exact At.zero | apply At.succ)) (by rfl) ?_) | (refine tk_pldB H (by with_reducible repeat (first | exact At.zero | apply At.succ)) (aggT (by kernel_rfl)) ?_) | (refine gd_true_in ?_) | (refine gd_false_in ?_) | (refine gd_true_in' ?_) | (refine gd_false_in' ?_))
      have ec : ((pre.length : Int) + 1) = ((pre.length + 1 : Nat) : Int) := by omega
      have ec2 : ((endp : Int) + (cnt : Int)) = ((endp + cnt : Nat) : Int) := by omega
      rw [ec, ec2] at H
      exact round_normal H2 H hz2 hz hT (L3 := LJ n a14 cap14 a cap al capl (some ⟨b5, 0, none⟩) cap5 B7 B12 B14 B20 B21 B22 B23 l seed A (pre.length + 1) (endp + cnt) s') (by (try simp only [List.cons_append, List.nil_append]); with_reducible repeat (first | exact List.Sublist.slnil | apply List.Sublist.cons_cons | apply List.Sublist.cons)) ⟨endp + cnt, s', by simp, fun h => by simp at h; omega, fun h => by simpa using hB', by omega, hpre⟩
    · refine drw_pure H fun w1 hp H => ?_
      have c5 : ¬ cap5 = endp := by omega
      have hrA : Row w1 5 1 (some ⟨b5, 0, none⟩) A.length cap5 (ub A) := H.ok (.row 5 1 (some ⟨b5, 0, none⟩) A.length cap5 (ub A)) (At.mem (by with_reducible repeat (first | exact At.zero | apply At.succ)))
      have hlA : Lies w1 (some ⟨b5, endp, none⟩) (ub (A.drop endp)) := by
        have h := hrA.lies.dropAt endp
        rw [← ub_drop] at h
        simpa using h
      have hb5' : b5 < w1.heap.size := hrA.lt b5 rfl
      clear hrA
      repeat (first | ((first | refine val_box H ?_ | refine val_alloc H (fun w => by simp [go_sem]; rfl) ?_); clear H; intro B w hB hp H; clear hB hp; try simp only [List.set_cons_zero, List.set_cons_succ, List.setIfInBounds_toArray, Value.cells] at H) | (first | refine val_ld H (fun w => by simp [go_sem]) (by with_reducible repeat (first | exact At.zero | apply At.succ)) (by rfl) ?_ | refine rd_ld H (fun w => by simp [go_sem]) (by with_reducible repeat (first | exact At.zero | apply At.succ)) (by rfl) ?_ | refine val_ldB H (by with_reducible repeat (first | exact At.zero | apply At.succ)) (aggT (by kernel_rfl)) ?_ | refine rd_ldB H (by with_reducible repeat (first | exact At.zero | apply At.succ)) (aggT (by kernel_rfl)) ?_) | ((first | refine unt_st H (by with_reducible repeat (first | exact At.zero | apply At.succ)) (fun w => by simp [go_sem]) (by rfl) (by rfl) ?_ | refine unt_stB H (by with_reducible repeat (first | exact At.zero | apply At.succ)) (aggT (by kernel_rfl)) (by rfl) (by rfl) ?_); clear H; intro w ho H; clear ho; try simp only [List.set_cons_zero, List.set_cons_succ, List.setIfInBounds_toArray, Value.cells] at H) | (refine val_at_bs ?_; ((refine val_run (by simp [go_sem]; (try simp (disch := omega) only [w_i64, w_u64, w_u32, w_u16, w_u8, w_i32]); rfl) ?_); refine onOk_bs H ?_; clear H; intro B w hB hp H; clear hB hp; try simp only [List.set_cons_zero, List.set_cons_succ, List.setIfInBounds_toArray, Value.cells] at H)) | (first | (refine val_run (by simp [bin, nilc, go_sem, h3, c5]; (try simp (disch := omega) only [w_i64, w_u64, w_u32, w_u16, w_u8, w_i32]); rfl) ?_; refine onOk_in ?_) | (refine pu_run (fun w => by simp [bin, nilc, go_sem, h3, c5]; (try simp (disch := omega) only [w_i64, w_u64, w_u32, w_u16, w_u8, w_i32]); rfl) ?_; refine puR_in ?_)) | (refine tk_at_in ?_) | (refine ph_at ?_) | (refine ph_pure H.only ?_) | (refine ph_pure (hpT.trans H.only (fun _ _ k => k)) ?_) | (refine tk_pld H (fun w => by simp [go_sem]) (by with_reducible repeat (first | exact At.zero | apply At.succ)) (by rfl) ?_) | (refine tk_pldB H (by with_reducible repeat (first | exact At.zero | apply At.succ)) (aggT (by kernel_rfl)) ?_) | (refine gd_true_in ?_) | (refine gd_false_in ?_) | (refine gd_true_in' ?_) | (refine gd_false_in' ?_))
      have HO := H
      clear H
      refine two_iff.2 ⟨?_, ?_⟩
      · refine lnext_ret last (A.drop endp) (by simp) hlA (by omega) (by omega) (by omega) (fun r cnt' s'' w2 a7 cap7 hN' hpT hl7 hb7 => ?_) (fun er w2 hN' _ => by rw [hN] at hN'; cases hN')
        rw [hN] at hN'
        injection hN' with hN'
        injection hN' with hr hN'
        injection hN' with hc hs
        subst hr hc hs
        have HO2 := HO.pure hpT
        have H := Hp.start (fun _ => False) w2
        refine ph_pure hpT ?_
        repeat (first | ((first | refine val_box H ?_ | refine val_alloc H (fun w => by simp [go_sem]; rfl) ?_); clear H; intro B w hB hp H; clear hB hp; try simp only [List.set_cons_zero, List.set_cons_succ, List.setIfInBounds_toArray, Value.cells] at H) | (first | refine val_ld H (fun w => by simp [go_sem]) (by with_reducible repeat (first | exact At.zero | apply At.succ)) (by rfl) ?_ | refine rd_ld H (fun w => by simp [go_sem]) (by with_reducible repeat (first | exact At.zero | apply At.succ)) (by rfl) ?_ | refine val_ldB H (by with_reducible repeat (first | exact At.zero | apply At.succ)) (aggT (by kernel_rfl)) ?_ | refine rd_ldB H (by with_reducible repeat (first | exact At.zero | apply At.succ)) (aggT (by kernel_rfl)) ?_) | ((first | refine unt_st H (by with_reducible repeat (first | exact At.zero | apply At.succ)) (fun w => by simp [go_sem]) (by rfl) (by rfl) ?_ | refine unt_stB H (by with_reducible repeat (first | exact At.zero | apply At.succ)) (aggT (by kernel_rfl)) (by rfl) (by rfl) ?_); clear H; intro w ho H; clear ho; try simp only [List.set_cons_zero, List.set_cons_succ, List.setIfInBounds_toArray, Value.cells] at H) | (refine val_at_bs ?_; ((refine val_run (by simp [go_sem]; (try simp (disch := omega) only [w_i64, w_u64, w_u32, w_u16, w_u8, w_i32]); rfl) ?_); refine onOk_bs H ?_; clear H; intro B w hB hp H; clear hB hp; try simp only [List.set_cons_zero, List.set_cons_succ, List.setIfInBounds_toArray, Value.cells] at H)) | (first | (refine val_run (by simp [bin, nilc, go_sem]; (try simp (disch := omega) only [w_i64, w_u64, w_u32, w_u16, w_u8, w_i32]); rfl) ?_; refine onOk_in ?_) | (refine pu_run (fun w => by simp [bin, nilc, go_sem]; (try simp (disch := omega) only [w_i64, w_u64, w_u32, w_u16, w_u8, w_i32]); rfl) ?_; refine puR_in ?_)) | (refine tk_at_in ?_) | (refine ph_at ?_) | (refine ph_pure H.only ?_) | (refine ph_pure (hpT.trans H.only (fun _ _ k => k)) ?_) | (refine tk_pld H (fun w => by simp [go_sem]) (by with_reducible repeat (first | exact At.zero | apply At.succ)) (by rfl) ?_) | (refine tk_pldB H (by with_reducible repeat (first | exact At.zero | apply At.succ)) (aggT (by kernel_rfl)) ?_) | (refine gd_true_in ?_) | (refine gd_false_in ?_) | (refine gd_true_in' ?_) | (refine gd_false_in' ?_))
        exact ⟨_, a7, cap7, rfl, rfl, rfl, rfl, hl7.pure H.only, HO2.join H⟩
      · have H := Hp.start (fun _ => False) w1
        repeat (first | ((first | refine val_box H ?_ | refine val_alloc H (fun w => by simp [go_sem]; rfl) ?_); clear H; intro B w hB hp H; clear hB hp; try simp only [List.set_cons_zero, List.set_cons_succ, List.setIfInBounds_toArray, Value.cells] at H) | (first | refine val_ld H (fun w => by simp [go_sem]) (by with_reducible repeat (first | exact At.zero | apply At.succ)) (by rfl) ?_ | refine rd_ld H (fun w => by simp [go_sem]) (by with_reducible repeat (first | exact At.zero | apply At.succ)) (by rfl) ?_ | refine val_ldB H (by with_reducible repeat (first | exact At.zero | apply At.succ)) (aggT (by kernel_rfl)) ?_ | refine rd_ldB H (by with_reducible repeat (first | exact At.zero | apply At.succ)) (aggT (by kernel_rfl)) ?_) | ((first | refine unt_st H (by with_reducible repeat (first | exact At.zero | apply At.succ)) (fun w => by simp [go_sem]) (by rfl) (by rfl) ?_ | refine unt_stB H (by with_reducible repeat (first | exact At.zero | apply At.succ)) (aggT (by kernel_rfl)) (by rfl) (by rfl) ?_); clear H; intro w ho H; clear ho; try simp only [List.set_cons_zero, List.set_cons_succ, List.setIfInBounds_toArray, Value.cells] at H) | (refine val_at_bs ?_; ((refine val_run (by simp [go_sem]; (try simp (disch := omega) only [w_i64, w_u64, w_u32, w_u16, w_u8, w_i32]); rfl) ?_); refine onOk_bs H ?_; clear H; intro B w hB hp H; clear hB hp; try simp only [List.set_cons_zero, List.set_cons_succ, List.setIfInBounds_toArray, Value.cells] at H)) | (first | (refine val_run (by simp [bin, nilc, go_sem]; (try simp (disch := omega) only [w_i64, w_u64, w_u32, w_u16, w_u8, w_i32]); rfl) ?_; refine onOk_in ?_) | (refine pu_run (fun w => by simp [bin, nilc, go_sem]; (try simp (disch := omega) only [w_i64, w_u64, w_u32, w_u16, w_u8, w_i32]); rfl) ?_; refine puR_in ?_)) | (refine tk_at_in ?_) | (refine ph_at ?_) | (refine ph_pure H.only ?_) | (refine ph_pure (hpT.trans H.only (fun _ _ k => k)) ?_) | (refine tk_pld H (fun w => by simp [go_sem]) (by with_reducible repeat (first | exact At.zero | apply At.succ)) (by rfl) ?_) | (refine tk_pldB H (by with_reducible repeat (first | exact At.zero | apply At.succ)) (aggT (by kernel_rfl)) ?_) | (refine gd_true_in ?_) | (refine gd_false_in ?_) | (refine gd_true_in' ?_) | (refine gd_false_in' ?_))
        refine lnext_ret last (A.drop endp) (by simp) (hlA.pure H.only) (by omega) (by omega) (by omega) (fun r cnt' s'' w2 a7 cap7 hN' hpT hl7 hb7 => ?_) (fun er w2 hN' _ => by rw [hN] at hN'; cases hN')
        rw [hN] at hN'
        injection hN' with hN'
        injection hN' with hr hN'
        injection hN' with hc hs
        subst hr hc hs
        replace H := H.pure hpT
        have h2 := H.only
        repeat (first | ((first | refine val_box H ?_ | refine val_alloc H (fun w => by simp [go_sem]; rfl) ?_); clear H; intro B w hB hp H; clear hB hp; try simp only [List.set_cons_zero, List.set_cons_succ, List.setIfInBounds_toArray, Value.cells] at H) | (first | refine val_ld H (fun w => by simp [go_sem]) (by with_reducible repeat (first | exact At.zero | apply At.succ)) (by rfl) ?_ | refine rd_ld H (fun w => by simp [go_sem]) (by with_reducible repeat (first | exact At.zero | apply At.succ)) (by rfl) ?_ | refine val_ldB H (by with_reducible repeat (first | exact At.zero | apply At.succ)) (aggT (by kernel_rfl)) ?_ | refine rd_ldB H (by with_reducible repeat (first | exact At.zero | apply At.succ)) (aggT (by kernel_rfl)) ?_) | ((first | refine unt_st H (by with_reducible repeat (first | exact At.zero | apply At.succ)) (fun w => by simp [go_sem]) (by rfl) (by rfl) ?_ | refine unt_stB H (by with_reducible repeat (first | exact At.zero | apply At.succ)) (aggT (by kernel_rfl)) (by rfl) (by rfl) ?_); clear H; intro w ho H; clear ho; try simp only [List.set_cons_zero, List.set_cons_succ, List.setIfInBounds_toArray, Value.cells] at H) | (refine val_at_bs ?_; ((refine val_run (by simp [go_sem]; (try simp (disch := omega) only [w_i64, w_u64, w_u32, w_u16, w_u8, w_i32]); rfl) ?_); refine onOk_bs H ?_; clear H; intro B w hB hp H; clear hB hp; try simp only [List.set_cons_zero, List.set_cons_succ, List.setIfInBounds_toArray, Value.cells] at H)) | (first | (refine val_run (by simp [bin, nilc, go_sem]; (try simp (disch := omega) only [w_i64, w_u64, w_u32, w_u16, w_u8, w_i32]); rfl) ?_; refine onOk_in ?_) | (refine pu_run (fun w => by simp [bin, nilc, go_sem]; (try simp (disch := omega) only [w_i64, w_u64, w_u32, w_u16, w_u8, w_i32]); rfl) ?_; refine puR_in ?_)) | (refine tk_at_in ?_) | (refine ph_at ?_) | (refine ph_pure H.only ?_) | (refine ph_pure (hpT.trans H.only (fun _ _ k => k)) ?_) | (refine tk_pld H (fun w => by simp [go_sem]) (by with_reducible repeat (first | exact At.zero | apply At.succ)) (by rfl) ?_) | (refine tk_pldB H (by with_reducible repeat (first | exact At.zero | apply At.succ)) (aggT (by kernel_rfl)) ?_) | (refine gd_true_in ?_) | (refine gd_false_in ?_) | (refine gd_true_in' ?_) | (refine gd_false_in' ?_))
        exact ⟨_, a7, cap7, rfl, rfl, rfl, rfl, hl7.keep (fun q hq _ => by
          rw [hb7] at hq
          obtain rfl : b5 = q := Option.some.inj hq
          exact (H.only.block b5 hb5' id).trans (h2.block b5 hb5' id).symm), HO.join H⟩
set_option maxHeartbeats 2000000 in
theorem t10 (hi : In3 w0 al ab capl capb n m xs l bh) (h20 : n ≤ 20) (h60 : m ≤ 60) (h9 : T9 w0 al ab capl capb n m xs l bh seed cut at_ y) : T10 w0 al ab capl capb n m xs l bh seed cut at_ y := by
  intro w a cap a14 cap14 B14 B12 B7 hd100 H
  have hch : (chain seed l).length ≤ 2320 := by
    have := chain_length_le seed l 100 (by decide) hd100
    have h2 : l.length * 116 ≤ 20 * 116 := Nat.mul_le_mul_right _ (by have := hi.len; omega)
    omega
  have hbm := hi.hm
  unfold c3_10
  repeat (first | ((first | refine val_box H ?_ | refine val_alloc H (fun w => by simp [go_sem]; rfl) ?_); clear H; intro B w hB hp H; clear hB hp; try simp only [List.set_cons_zero, List.set_cons_succ, List.setIfInBounds_toArray, Value.cells] at H) | (first | refine val_ld H (fun w => by simp [go_sem]) (by with_reducible repeat (first | exact At.zero | apply At.succ)) (by rfl) ?_ | refine rd_ld H (fun w => by simp [go_sem]) (by with_reducible repeat (first | exact At.zero | apply At.succ)) (by rfl) ?_ | refine val_ldB H (by with_reducible repeat (first | exact At.zero | apply At.succ)) (aggT (by kernel_rfl)) ?_ | refine rd_ldB H (by with_reducible repeat (first | exact At.zero | apply At.succ)) (aggT (by kernel_rfl)) ?_) | ((first | refine unt_st H (by with_reducible repeat (first | exact At.zero | apply At.succ)) (fun w => by simp [go_sem]) (by rfl) (by rfl) ?_ | refine unt_stB H (by with_reducible repeat (first | exact At.zero | apply At.succ)) (aggT (by kernel_rfl)) (by rfl) (by rfl) ?_); clear H; intro w ho H; clear ho; try simp only [List.set_cons_zero, List.set_cons_succ, List.setIfInBounds_toArray, Value.cells] at H) | (refine val_at_bs ?_; ((refine val_run (by simp [go_sem]; (try simp (disch := omega) only [w_i64, w_u64, w_u32, w_u16, w_u8, w_i32]); rfl) ?_); refine onOk_bs H ?_; clear H; intro B w hB hp H; clear hB hp; try simp only [List.set_cons_zero, List.set_cons_succ, List.setIfInBounds_toArray, Value.cells] at H)) | (first | (refine val_run (by simp [bin, nilc, go_sem]; (try simp (disch := omega) only [w_i64, w_u64, w_u32, w_u16, w_u8, w_i32]); rfl) ?_; refine onOk_in ?_) | (refine pu_run (fun w => by simp [bin, nilc, go_sem]; (try simp (disch := omega) only [w_i64, w_u64, w_u32, w_u16, w_u8, w_i32]); rfl) ?_; refine puR_in ?_)) | (refine tk_at_in ?_) | (refine ph_at ?_) | (refine ph_pure H.only ?_) | (refine ph_pure (hpT.trans H.only (fun _ _ k => k)) ?_) | (refine tk_pld H (fun w => by simp [go_sem]) (by with_reducible repeat (first | exact At.zero | apply At.succ)) (by rfl) ?_) | (refine tk_pldB H (by with_reducible repeat (first | exact At.zero | apply At.succ)) (aggT (by kernel_rfl)) ?_) | (refine gd_true_in ?_) | (refine gd_false_in ?_) | (refine gd_true_in' ?_) | (refine gd_false_in' ?_))
  replace H := H.asRow (by with_reducible repeat (first | exact At.zero | apply At.succ)) 1 0 rfl (Nat.zero_le _)
  simp only [List.set_cons_zero, List.set_cons_succ, List.setIfInBounds_toArray, Value.cells] at H
  (refine val_appR H el24 (by with_reducible repeat (first | exact At.zero | apply At.succ)) (by with_reducible repeat (first | exact At.zero | apply At.succ)) (ub_one _) (by unfold maxLen; omega) (by omega) ?_; clear H; intro a1 cap1 w ho hat H; clear ho hat; try simp only [List.set_cons_zero, List.set_cons_succ, List.setIfInBounds_toArray, Value.cells] at H)
  (refine val_app H el24 (by with_reducible repeat (first | exact At.zero | apply At.succ)) (H.lies hi.hb (fun _ _ => id)) (by rw [ub_length]; omega) (ub_one _) (by unfold maxLen; omega) (by omega) ?_; clear H; intro a1 cap1 w ho hat H; clear ho hat; try simp only [List.set_cons_zero, List.set_cons_succ, List.setIfInBounds_toArray, Value.cells] at H)
  have hAl : 0 + (chain seed l).length + m = (chain seed l ++ bh).length := by rw [List.length_append]; omega
  rw [hAl] at H ⊢
  simp only [List.nil_append] at H
  rw [← ub_append] at H
  repeat (first | ((first | refine val_box H ?_ | refine val_alloc H (fun w => by simp [go_sem]; rfl) ?_); clear H; intro B w hB hp H; clear hB hp; try simp only [List.set_cons_zero, List.set_cons_succ, List.setIfInBounds_toArray, Value.cells] at H) | (first | refine val_ld H (fun w => by simp [go_sem]) (by with_reducible repeat (first | exact At.zero | apply At.succ)) (by rfl) ?_ | refine rd_ld H (fun w => by simp [go_sem]) (by with_reducible repeat (first | exact At.zero | apply At.succ)) (by rfl) ?_ | refine val_ldB H (by with_reducible repeat (first | exact At.zero | apply At.succ)) (aggT (by kernel_rfl)) ?_ | refine rd_ldB H (by with_reducible repeat (first | exact At.zero | apply At.succ)) (aggT (by kernel_rfl)) ?_) | ((first | refine unt_st H (by with_reducible repeat (first | exact At.zero | apply At.succ)) (fun w => by simp [go_sem]) (by rfl) (by rfl) ?_ | refine unt_stB H (by with_reducible repeat (first | exact At.zero | apply At.succ)) (aggT (by kernel_rfl)) (by rfl) (by rfl) ?_); clear H; intro w ho H; clear ho; try simp only [List.set_cons_zero, List.set_cons_succ, List.setIfInBounds_toArray, Value.cells] at H) | (refine val_at_bs ?_; ((refine val_run (by simp [go_sem]; (try simp (disch := omega) only [w_i64, w_u64, w_u32, w_u16, w_u8, w_i32]); rfl) ?_); refine onOk_bs H ?_; clear H; intro B w hB hp H; clear hB hp; try simp only [List.set_cons_zero, List.set_cons_succ, List.setIfInBounds_toArray, Value.cells] at H)) | (first | (refine val_run (by simp [bin, nilc, go_sem]; (try simp (disch := omega) only [w_i64, w_u64, w_u32, w_u16, w_u8, w_i32]); rfl) ?_; refine onOk_in ?_) | (refine pu_run (fun w => by simp [bin, nilc, go_sem]; (try simp (disch := omega) only [w_i64, w_u64, w_u32, w_u16, w_u8, w_i32]); rfl) ?_; refine puR_in ?_)) | (refine tk_at_in ?_) | (refine ph_at ?_) | (refine ph_pure H.only ?_) | (refine ph_pure (hpT.trans H.only (fun _ _ k => k)) ?_) | (refine tk_pld H (fun w => by simp [go_sem]) (by with_reducible repeat (first | exact At.zero | apply At.succ)) (by rfl) ?_) | (refine tk_pldB H (by with_reducible repeat (first | exact At.zero | apply At.succ)) (aggT (by kernel_rfl)) ?_) | (refine gd_true_in ?_) | (refine gd_false_in ?_) | (refine gd_true_in' ?_) | (refine gd_false_in' ?_))
  rename_i B20 _ _ B21 _ B22 _ _ _ _
  obtain ⟨B23, rfl⟩ : ∃ x, x = B := ⟨_, rfl⟩
  obtain ⟨a5, rfl⟩ : ∃ x, x = a1 := ⟨_, rfl⟩
  obtain ⟨cap5, rfl⟩ : ∃ x, x = cap1 := ⟨_, rfl⟩
  have hr : Row w 5 1 a5 (chain seed l ++ bh).length cap5 (ub (chain seed l ++ bh)) := H.ok (.row 5 1 a5 _ cap5 _) (At.mem (by with_reducible repeat (first | exact At.zero | apply At.succ)))
  refine scan_ret seed _ rfl hr.lies (by rw [List.length_append]; omega) fun w1 S1 S2 a6 cap6 hp hok hfr => ?_
  clear hr
  replace H := H.fresh hp hok hfr
  clear hp hok hfr
  obtain ⟨A, hA⟩ : ∃ A, A = chain seed l ++ bh := ⟨_, rfl⟩
  have hAs : A.length ≤ 2380 := by rw [hA, List.length_append]; omega
  have hd1024 : ∀ r ∈ l, r.d.length ≤ 1024 := fun r hr => Nat.le_trans (hd100 r hr) (by decide)
  have hz0 := H.only.size
  rw [← hA] at H
  have hbel := H.below
  have hsc := scan_all (seed := seed) (l := l) (bh := bh) hd1024
  rw [← hA] at hsc
  refine rng_in H rfl Try.call62 scanEncs (scanPin seed A w1.heap.size) (fun xs => xs.map ScanIt.strip = (scan seed 0 A).1) (fun pre => pre.map ScanIt.strip <+: (scan seed 0 A).1) (fun _ => rfl) (fun W hok hz => scan_seq seed A w1.heap.size hok hz (by omega))
    (J3 n a14 cap14 a cap al capl a5 cap5 B7 B12 B14 B20 B21 B22 B23 l seed A) (fun _ _ _ => False) ?_ ?_ (fun _ _ _ h => h.elim) ?_ ?_ (fun _ _ _ _ _ _ h => h.elim)
  · refine ⟨_, _, rfl, fun _ => ⟨rfl, rfl⟩, fun h => ?_, by rw [hA]; simp, by simp⟩
    rw [hA]
    exact Beyond.first hd1024 (by simp) (by simp at h; simp [hi.len, h])
  · rintro pre L ⟨endp, last, rfl, _⟩
    simp [It.low]
  · rintro pre x W L ⟨endp, last, rfl, h1, h2, h3, h4⟩ HW hz ⟨hrow, hfr, hpre, hx1024⟩
    replace HW := HW.addIn hbel rfl hz0 (i := .row 5 1 x.a x.r.d.length x.cap (ub x.r.d)) hrow hfr
    have H := Hp.start (fun _ => False) W
    obtain ⟨w, rfl⟩ : ∃ w, w = W := ⟨_, rfl⟩
    delta scanEncs
    simp only [app]
    repeat (first | ((first | refine val_box H ?_ | refine val_alloc H (fun w => by simp [go_sem]; rfl) ?_); clear H; intro B w hB hp H; clear hB hp; try simp only [List.set_cons_zero, List.set_cons_succ, List.setIfInBounds_toArray, Value.cells] at H) | (first | refine val_ld H (fun w => by simp [go_sem]) (by with_reducible repeat (first | exact At.zero | apply At.succ)) (by rfl) ?_ | refine rd_ld H (fun w => by simp [go_sem]) (by with_reducible repeat (first | exact At.zero | apply At.succ)) (by rfl) ?_ | refine val_ldB H (by with_reducible repeat (first | exact At.zero | apply At.succ)) (aggT (by kernel_rfl)) ?_ | refine rd_ldB H (by with_reducible repeat (first | exact At.zero | apply At.succ)) (aggT (by kernel_rfl)) ?_) | ((first | refine unt_st H (by with_reducible repeat (first | exact At.zero | apply At.succ)) (fun w => by simp [go_sem]) (by rfl) (by rfl) ?_ | refine unt_stB H (by with_reducible repeat (first | exact At.zero | apply At.succ)) (aggT (by kernel_rfl)) (by rfl) (by rfl) ?_); clear H; intro w ho H; clear ho; try simp only [List.set_cons_zero, List.set_cons_succ, List.setIfInBounds_toArray, Value.cells] at H) | (refine val_at_bs ?_; ((refine val_run (by simp [go_sem]; (try simp (disch := omega) only [w_i64, w_u64, w_u32, w_u16, w_u8, w_i32]); rfl) ?_); refine onOk_bs H ?_; clear H; intro B w hB hp H; clear hB hp; try simp only [List.set_cons_zero, List.set_cons_succ, List.setIfInBounds_toArray, Value.cells] at H)) | (first | (refine val_run (by simp [bin, nilc, go_sem]; (try simp (disch := omega) only [w_i64, w_u64, w_u32, w_u16, w_u8, w_i32]); rfl) ?_; refine onOk_in ?_) | (refine pu_run (fun w => by simp [bin, nilc, go_sem]; (try simp (disch := omega) only [w_i64, w_u64, w_u32, w_u16, w_u8, w_i32]); rfl) ?_; refine puR_in ?_)) | (refine tk_at_in ?_) | (refine ph_at ?_) | (refine ph_pure H.only ?_) | (refine ph_pure (hpT.trans H.only (fun _ _ k => k)) ?_) | (refine tk_pld H (fun w => by simp [go_sem]) (by with_reducible repeat (first | exact At.zero | apply At.succ)) (by rfl) ?_) | (refine tk_pldB H (by with_reducible repeat (first | exact At.zero | apply At.succ)) (aggT (by kernel_rfl)) ?_) | (refine gd_true_in ?_) | (refine gd_false_in ?_) | (refine gd_true_in' ?_) | (refine gd_false_in' ?_))
    have hsl : (scanI seed A S1 S2 a6 cap6).low w1.heap.size := fun k hk => hbel _ (List.mem_cons_self ..) k hk
    refine asn_in HW H hz0 (by repeat (first | exact fun _ hh => absurd hh List.not_mem_nil | (refine List.forall_mem_cons.2 ⟨(by first | exact hsl | exact trivial), ?_⟩))) fun W2 H2 hz2 hT => ?_
    exact b2 hi h20 hsc hAs hA hd1024 (H2.front (L1 := [_, _])) hsl hz hz2 (fun q hq => by have := hsl q hq; exact hT q this (by omega)) h1 h2 h3 hpre hx1024
  · rintro D xs' W L hS ⟨endp, last, rfl, h1, h2, h3, h4⟩ HD hD
    have hlen : n ≤ xs'.length := by
      have := congrArg List.length hS
      rw [hsc] at this
      simp [starts_length, hi.len] at this
      omega
    obtain ⟨k1, k2⟩ := (h2 hlen).last hS
    rw [hA] at k1 k2 h3 HD
    exact h9 W a cap a14 cap14 a5 cap5 B14 B12 B7 B20 B21 B22 B23 D xs'.length endp last hd100 (Nat.le_trans hz0 hD) hlen k2 k1 h3 (HD.drop (by (try simp only [List.cons_append, List.nil_append]); with_reducible repeat (first | exact List.Sublist.slnil | apply List.Sublist.cons_cons | apply List.Sublist.cons)))
end
end Go.Proofs.Ytchmcjimnliodaa
