/- A half that is torn. No program in sight. -/
import Derived.Test.YtchmcjimnliodaaMW6
namespace Go.Proofs.Ytchmcjimnliodaa

theorem ch_pos (a s b : List Rec) : 0 < (ch a s b).length := by
  rw [ch_len]
  omega
theorem recsOf_nil : recsOf [] = [] := by
  unfold recsOf
  rw [scan_err (nxt_nil _)]
  rfl
theorem look_torn {H : List (List UInt8)} {rs : List Rec} (small : ∀ r ∈ rs, r.d.length ≤ 1024 ∧ r.k ≠ 255) (room : (ch rs [] []).length ≤ 55 * H.length)
    (h0 : ∀ x, H[0]? = some x → turnOf x = 0 ∨ turnOf x = 2) (h1 : ∀ j x, H[j]? = some x → Vers 2 0 (ch rs [] []) j x) :
    (lookOf H).sealed = false ∨ lookOf H = ⟨2, rs, true⟩ := by
  have hp := ch_pos rs [] []
  cases H with
  | nil => simp only [List.length_nil] at room; omega
  | cons x r =>
    rcases h0 x rfl with h | h
    · left
      have e : bytesOf (x :: r) = ([], 0) := by
        unfold bytesOf
        simp only [List.headD_cons, h]
        rfl
      unfold lookOf
      rw [e]
      show (lookR (recsOf [])).1 = false
      rw [recsOf_nil]
      rfl
    · obtain ⟨m, m1, m2, m3⟩ := chainOf_vers (t := 2) (lo := 0) (C := ch rs [] []) (by decide) (Nat.zero_le _) (x :: r) 0 (by rw [Nat.zero_add]; exact room) (by omega) (fun j y hj => by rw [Nat.zero_add]; exact h1 j y hj)
      have e : bytesOf (x :: r) = ((ch rs [] []).take m, 2) := by
        unfold bytesOf
        simp only [List.headD_cons, h]
        rw [if_neg (by decide), m3]
        rfl
      obtain ⟨k, k1, k2, k3, k4⟩ := recsOf_cut (logR rs [] []) (logR_small (by simpa using small)) m (by have e : (chain 0 (logR rs [] [])).length = (ch rs [] []).length := rfl; omega)
      have e2 : logR rs [] [] = rs ++ [sealR] := by unfold logR; simp
      have hl : (logR rs [] []).length = rs.length + 1 := by rw [e2]; simp
      have e3 : recsOf ((ch rs [] []).take m) = (rs ++ [sealR]).take k := by rw [← e2]; exact k4
      rcases Nat.lt_or_ge rs.length k with hk | hk
      · right
        unfold lookOf
        rw [e]
        show Hf.mk 2 (lookR (recsOf ((ch rs [] []).take m))).2 (lookR (recsOf ((ch rs [] []).take m))).1 = _
        rw [e3, List.take_of_length_le (by simp; omega), look_sealed rs [] (fun r hr => (small r hr).2) (by simp), List.append_nil]
      · left
        unfold lookOf
        rw [e]
        show (lookR (recsOf ((ch rs [] []).take m))).1 = false
        rw [e3, List.take_append_of_le_length hk, look_open _ (fun r hr => (small r (List.mem_of_mem_take hr)).2)]
theorem pick_torn {X : List (List UInt8)} {rs : List Rec} (e0 : lookOf (halfOf X 0) = ⟨1, rs, true⟩) (e1 : (lookOf (halfOf X 1)).sealed = false ∨ lookOf (halfOf X 1) = ⟨2, rs, true⟩) : ∃ wh t, pickOf X = some (wh, ⟨t, rs, true⟩) := by
  unfold pickOf
  rw [e0]
  rcases e1 with e1 | e1
  · rw [e1]
    exact ⟨0, 1, by simp⟩
  · rw [e1]
    exact ⟨1, 2, by simp⟩
/-- The disk that took parts of what Open wrote. -/
theorem open_torn {d d2 x : Dk} {rs : List Rec} (G : Good d 0 1 [] rs []) (G2 : Good d2 1 2 rs [] []) (hw : d.ws = []) (hl2 : d2.l.length = d.l.length) (hw2 : d2.ws = []) (hx : x.l = d.l)
    (hws : ∀ p ∈ x.ws, d.l.length / 2 ≤ p.1 ∧ p.1 < d.l.length / 2 + d.l.length / 2 ∧ d2.now[p.1]? = some p.2) :
    (∃ wh t, pickOf x.now = some (wh, ⟨t, rs, true⟩)) ∧ greatestOf x.now < 9223372036854775808 ∧ (chain 0 (rs ++ [sealR])).length ≤ 55 * (x.l.length / 2) := by
  have hdn : d.now = d.l := by unfold Dk.now; rw [hw]; rfl
  have hn4 := G.n4
  have hnl : x.now.length = d.l.length := (puts_length _ _).trans (by rw [hx])
  have hr2 : (ch rs [] []).length ≤ 55 * (d.l.length / 2) := by rw [← hl2]; exact G2.room
  have hsm : ∀ r ∈ rs, r.d.length ≤ 1024 ∧ r.k ≠ 255 := by simpa using G2.small
  have key : ∀ (j : Nat) (s : List UInt8), x.now[j]? = some s → (d.l[j]? = some s) ∨ (d.l.length / 2 ≤ j ∧ d2.now[j]? = some s) := by
    refine puts_each (Q := fun (j : Nat) (s : List UInt8) => (d.l[j]? = some s) ∨ (d.l.length / 2 ≤ j ∧ d2.now[j]? = some s)) x.ws x.l (fun j s hj => ?_) (fun p hp => .inr ⟨(hws p hp).1, (hws p hp).2.2⟩)
    rw [hx] at hj
    exact .inl hj
  have now2 := G2.now
  rw [hl2] at now2
  have hturn : ∀ (j : Nat) (s : List UInt8), x.now[j]? = some s → turnOf s ≤ 2 := by
    intro j s hj
    rcases key j s hj with h | ⟨_, h⟩
    · rcases G.l j s h with ⟨_, _, h⟩ | ⟨_, h⟩
      · have := vers_turn (by decide) h; omega
      · omega
    · rcases now2 j s h with ⟨_, _, h⟩ | ⟨_, h⟩
      · exact vers_turn (by decide) h
      · omega
  refine ⟨?_, ?_, ?_⟩
  · have eh0 : halfOf x.now 0 = halfOf d.now 0 := by
      apply List.ext_getElem?
      intro j
      unfold halfOf
      rw [List.getElem?_take, List.getElem?_take, List.getElem?_drop, List.getElem?_drop, hnl, hdn]
      simp only [Nat.zero_mul, Nat.zero_add]
      by_cases hj : j < d.l.length / 2
      · rw [if_pos hj, if_pos hj]
        have hjx : j < x.now.length := by omega
        rw [List.getElem?_eq_getElem hjx]
        rcases key j _ (List.getElem?_eq_getElem hjx) with h | ⟨h, _⟩
        · exact h.symm
        · omega
      · rw [if_neg hj, if_neg hj]
    obtain ⟨k, k1, k2, k3⟩ := look_at5 (l := d.now) (half := 0) (t := 1) (lo := (ch [] rs []).length) (a := []) (s := rs) (b := []) (by decide) (by decide) (by decide) G.small (by rw [hdn]; exact G.room) (Nat.le_refl _) (Nat.le_refl _) (by
      have := G.now
      rw [hdn] at this ⊢
      exact this)
    refine pick_torn (by rw [eh0, k2]; simp) (look_torn hsm (by rw [halfOf_length _ (by decide), hnl]; exact hr2) (fun s hs => ?_) (fun j s hs => ?_))
    · have h0 := halfOf_lt x.now (by decide) hs
      rw [halfOf_at x.now (by decide) h0, hnl] at hs
      rcases key _ s hs with h | ⟨_, h⟩
      · rcases G.l _ s h with ⟨h3, h4, _⟩ | ⟨_, h⟩
        · omega
        · left; omega
      · rcases now2 _ s h with ⟨_, _, h⟩ | ⟨h3, _⟩
        · rcases vers_exact h with ⟨_, h⟩ | ⟨_, h⟩
          · have := ch_pos rs [] []
            omega
          · right; rw [h]; exact turnOf_secAt (by decide) _ _
        · omega
    · have h0 := halfOf_lt x.now (by decide) hs
      rw [halfOf_at x.now (by decide) h0, hnl] at hs
      rw [hnl] at h0
      rcases key _ s hs with h | ⟨_, h⟩
      · rcases G.l _ s h with ⟨h3, h4, _⟩ | ⟨_, h⟩
        · omega
        · exact .inl ⟨by omega, by omega⟩
      · rcases now2 _ s h with ⟨_, _, h⟩ | ⟨h3, _⟩
        · have h := h.less (Nat.zero_le _)
          rwa [show 1 * (d.l.length / 2) + j - 1 * (d.l.length / 2) = j by omega] at h
        · omega
  · rcases (foldl_max x.now turnOf 0).1 with h | ⟨y, hy, h⟩
    · unfold greatestOf; omega
    · obtain ⟨j, hj⟩ := List.getElem?_of_mem hy
      have := hturn j y hj
      unfold greatestOf
      omega
  · rw [hx]
    have e : chain 0 (rs ++ [sealR]) = ch rs [] [] := by unfold ch logR; simp
    rw [e]
    exact hr2
end Go.Proofs.Ytchmcjimnliodaa
