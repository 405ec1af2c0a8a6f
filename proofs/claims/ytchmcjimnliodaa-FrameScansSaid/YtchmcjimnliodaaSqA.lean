/- The law of a range over an iterator, once more: what the assignment of the two variables leaves is told as a function of the frame. No program in sight. -/
import Derived.Test.YtchmcjimnliodaaSq
namespace Go.Proofs.Ytchmcjimnliodaa
open Go.RowKit
variable {n : Nat} {P : Program}
theorem range_sqA {α : Type} {g : Operand} {ps : Array Tmp} {assign body : Code} {Q : Exit → Act → World → Prop} {a : Act} {w : World}
    (h1 : 1 ≤ n) {gf : Nat} {lb : Array Value} (hg : a.eval g = .func (.func gf) #[] lb) (eg : ∀ args w, (callFunc gf args).run P w = .ok (.enter gf args) w)
    {encs : α → Array Value} {T : Nat → Prop} {Pin : List α → α → World → Prop} {S Sp : List α → Prop} (hT : ∀ k, T k → k < w.heap.size)
    (hseq : ∀ rec : Loop, SqAt (n - 1) P gf lb encs T Pin S Sp ((w.alloc (.deferred (some []))).alloc (.loop rec))) (hps : ∀ x, (encs x).size = ps.size)
    (I : List α → World → Prop) (hI : OwnFrom w.heap.size I) (h0 : I [] w)
    (set : α → Nat → Array Value → Array Value) (Ab : List α → α → Nat → World → Prop) (hAb : ∀ pre x B, OwnFrom w.heap.size (fun (_ : Unit) W => Ab pre x B W))
    (hassign : ∀ (l : Nat) (pre : List α) (x : α) (W : World) (K : Act → World → Prop), I pre W → Pin pre x W → (∀ B W', Pure W W' → I pre W' → Ab pre x B W' → K { tmps := set x B a.tmps, defers := [] } W') →
      assign.wpIn (Fence.wide.inRound l) (n - 1 - 1) P (Exit.then K (fun _ _ _ => False)) { tmps := (ps.zip (encs x)).foldl (fun t (p, v) => t.setIfInBounds p v) a.tmps, defers := [] } W)
    (hbody : ∀ (l : Nat) (pre : List α) (x : α) (B : Nat) (W : World), w.heap.size ≤ l → I pre W → Ab pre x B W →
      body.wpIn (Fence.wide.inRound l) (n - 1 - 1) P (sqPost w.heap.size T I (fun _ _ _ => False) (pre ++ [x]) W) { tmps := set x B a.tmps, defers := [] } W)
    (hdone : ∀ (D : Nat) (xs : List α) (W : World), w.heap.size ≤ D → S xs → I xs W → W.heap[D]? = some (.deferred (some [])) → Q .normal { a with defers := { target := .collected D, args := #[] } :: a.defers } W) :
    (Code.rangeFunc g ps assign body).wp P Q a w := by
  refine wpIn_wide.1 (range_sq (n := n) h1 hg eg hT hseq hps I (fun _ _ _ => False) hI (fun _ => fun _ _ _ _ h => h.elim) h0
    (fun pre x a' W => ∃ B, a' = { tmps := set x B a.tmps, defers := [] } ∧ Ab pre x B W) ?_ ?_ ?_ hdone (fun _ _ _ _ _ _ h => h.elim))
  · intro pre x a' s A B row hs hg' hr
    obtain ⟨b, rfl, hb⟩ := hs
    exact ⟨b, rfl, hAb pre x b s A B row hb hg' hr⟩
  · intro l pre x W K hi hp hk
    exact hassign l pre x W K hi hp (fun B W' hpu hi' hab => hk _ W' hpu hi' ⟨B, rfl, hab⟩)
  · rintro l pre x a' W hl hi ⟨B, rfl, hab⟩
    exact hbody l pre x B W hl hi hab
end Go.Proofs.Ytchmcjimnliodaa
