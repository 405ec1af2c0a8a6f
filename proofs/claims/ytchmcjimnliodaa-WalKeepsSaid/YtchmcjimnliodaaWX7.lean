/- Appends onto slices that are full; the rows of acts. -/
import Derived.Test.YtchmcjimnliodaaMW6
import Derived.Deep.Upon
namespace Go.Proofs.Ytchmcjimnliodaa
open Go Go.RowKit
set_option maxRecDepth 10000
set_option linter.unusedSimpArgs false
set_option linter.unusedVariables false

structure ActAt where
  kind : Int
  n : Int
  x : RecAt
  keep : Nat
def ActAt.cells (y : ActAt) : List Value := [.int .i64 y.kind, .int .i64 y.n, .int .u8 y.x.r.k.toNat, .slice y.x.a y.x.r.d.length y.x.cap, .int .u64 y.keep]
def actsC (ys : List ActAt) : List Value := ys.flatMap ActAt.cells
structure Acts (w : World) (a : Option Addr) (ys : List ActAt) : Prop where
  head : Lies w a (actsC ys)
  data : ∀ y ∈ ys, Lies w y.x.a (ub y.x.r.d)
  kind : ∀ y ∈ ys, -9223372036854775808 ≤ y.kind ∧ y.kind ≤ 9223372036854775807
  n : ∀ y ∈ ys, -9223372036854775808 ≤ y.n ∧ y.n ≤ 9223372036854775807
  keep : ∀ y ∈ ys, y.keep < 18446744073709551616
theorem actsC_length (ys : List ActAt) : (actsC ys).length = ys.length * 5 := flat_len ys (fun _ _ => rfl)
theorem Acts.at_ {w : World} {a : Option Addr} {ys : List ActAt} (h : Acts w a ys) {i : Nat} (hi : i < ys.length) : ∃ b o, a = some ⟨b, o, none⟩ := by
  obtain ⟨b, o, h, _⟩ := h.head.addr (by
    intro e
    have := actsC_length ys
    rw [e] at this
    simp at this
    omega)
  exact ⟨b, o, h⟩
theorem Acts.part {w : World} {ys : List ActAt} {b o : Nat} (h : Acts w (some ⟨b, o, none⟩) ys) {i : Nat} (hi : i < ys.length) : Lies w (some ⟨b, o + i * 5, none⟩) ys[i].cells := by
  have := (h.head.dropAt (i * 5)).take 5
  have e : ((ys.flatMap ActAt.cells).drop (i * 5)).take 5 = ys[i].cells := flat_part (f := ActAt.cells) (n := 5) ys (fun _ _ => rfl) hi
  unfold actsC at this
  rw [e] at this
  exact this
section
variable {P : Program} {S : Nat → Prop} {w0 w : World} {L : List It}
/-- An append onto a slice without room; what was there stays. -/
theorem val_appN {K : Value → World → Prop} {t ty e : TypeId} {size bytes : Nat} (he : ElemT P t e size bytes) {a : Option Addr} {n cap : Nat} {xs : List Value} (h : Hp S w0 w (.row e size a n cap xs :: L))
    {b : Option Addr} {m c : Nat} {ys : List Value} (hl : Lies w b ys) (hm : ys.length = m * size) (h1 : ∀ u ∈ ys, u.oneCell' = true) (h63 : n + m ≤ maxLen) (hbytes : (n + m) * bytes ≤ 140737488355328)
    (k : ∀ a' c' a2 n2 cap2 ys2 w1, Pure w w1 → n + m ≤ c' → c' ≤ maxLen → (∀ W, Row W e size a2 n2 cap2 ys2 → Row W e size a n cap xs → Lies W a' (xs ++ ys)) → (∀ q, ablk a' = some q → ablk a2 = some q ∨ ablk a = some q) →
      Hp S w0 w1 (.row e size a2 n2 cap2 ys2 :: .row e size a n cap xs :: L) → K (.slice a' (n + m) c') w1) :
    val P (Builtin.append_ #[t, t] ty #[.slice a n n, .slice b m c]) w K := by
  have hr : Row w e size a n cap xs := h.ok _ (List.mem_cons_self ..)
  rcases Nat.eq_zero_or_pos m with h0 | h0
  · subst h0
    obtain rfl : ys = [] := List.eq_nil_of_length_eq_zero (by simpa using hm)
    have he' := he
    obtain ⟨ht, hs0, i, z, hi, hz, hsize, hby, hzs⟩ := he
    subst hsize
    have hs := src_lies (c := c) ht hs0 hm hl h1
    refine val_ok (run_append_nothing w t t ty e i ht hi a n n (Nat.le_refl _) _ hs) ?_
    exact k a n none 0 0 [] w (Only.refl _ _) (Nat.le_refl _) (by omega) (fun W _ h2 => by rw [List.append_nil]; exact h2.lies) (fun q hq => .inr hq) (h.nil _ _)
  · exact val_appF h he hr.lies hr.len hl hm h1 h0 h63 hbytes fun a' cap' w1 hp H => by
      have hr2 : Row w1 e size a' (n + m) cap' (xs ++ ys) := H.ok _ (List.mem_cons_self ..)
      exact k a' cap' a' (n + m) cap' (xs ++ ys) w1 hp hr2.2.1 hr2.2.2.1 (fun W h2 _ => h2.lies) (fun q hq => .inl hq) H
/-- The same, where the old one is not looked at again. -/
theorem val_appM {K : Value → World → Prop} {t ty e : TypeId} {size bytes : Nat} (he : ElemT P t e size bytes) {a : Option Addr} {n cap : Nat} {xs : List Value} (h : Hp S w0 w (.row e size a n cap xs :: L))
    {b : Option Addr} {m c : Nat} {ys : List Value} (hl : Lies w b ys) (hm : ys.length = m * size) (h1 : ∀ u ∈ ys, u.oneCell' = true) (h63 : n + m ≤ maxLen) (hbytes : (n + m) * bytes ≤ 140737488355328)
    (k : ∀ a' c' cap' w1, Pure w w1 → n + m ≤ c' → c' ≤ maxLen → Hp S w0 w1 (.row e size a' (n + m) cap' (xs ++ ys) :: L) → K (.slice a' (n + m) c') w1) :
    val P (Builtin.append_ #[t, t] ty #[.slice a n n, .slice b m c]) w K := by
  have hr : Row w e size a n cap xs := h.ok _ (List.mem_cons_self ..)
  rcases Nat.eq_zero_or_pos m with h0 | h0
  · subst h0
    obtain rfl : ys = [] := List.eq_nil_of_length_eq_zero (by simpa using hm)
    obtain ⟨ht, hs0, i, z, hi, hz, hsize, hby, hzs⟩ := he
    subst hsize
    have hs := src_lies (c := c) ht hs0 hm hl h1
    refine val_ok (run_append_nothing w t t ty e i ht hi a n n (Nat.le_refl _) _ hs) ?_
    exact k a n cap w (Only.refl _ _) (Nat.le_refl _) (by omega) (by rw [List.append_nil]; exact h)
  · exact val_appF h he hr.lies hr.len hl hm h1 h0 h63 hbytes fun a' cap' w1 hp H => by
      have hr2 : Row w1 e size a' (n + m) cap' (xs ++ ys) := H.ok _ (List.mem_cons_self ..)
      exact k a' cap' cap' w1 hp hr2.2.1 hr2.2.2.1 (H.drop (List.Sublist.cons_cons _ (List.sublist_cons_self _ _)))
end
theorem ch_count (a s b : List Rec) : a.length + s.length + b.length ≤ (ch a s b).length := by
  have h : ∀ l : List Rec, l.length ≤ (l.map fsize).sum := by
    intro l
    induction l with
    | nil => simp
    | cons x l ih => simp [fsize]; omega
  rw [ch_len]
  have := h a
  have := h s
  have := h b
  omega
theorem recsC_append (xs ys : List RecAt) : recsC (xs ++ ys) = recsC xs ++ recsC ys := by unfold recsC; simp
theorem rsOf_append (xs ys : List RecAt) : rsOf (xs ++ ys) = rsOf xs ++ rsOf ys := by unfold rsOf; simp
theorem rsOf_length (xs : List RecAt) : (rsOf xs).length = xs.length := by unfold rsOf; simp
end Go.Proofs.Ytchmcjimnliodaa
