/- Structs in structs, and strings added, in a walk. No program in sight. -/
import Derived.Test.YtipeanblfjimdaaDoorVcS
import Derived.Laws.Concat
namespace Go.Proofs.YtipeanblfjimdaaDoor
open Go Go.RowKit

section
variable {P : Program} {S : Nat → Prop} {w0 w : World} {L : List It}
theorem Blk.part {w : World} {B : Nat} {cs : Array Value} {T : TypeId} (h : Blk w B cs T) {o n : Nat} {xs : Array Value} (hx : ((cs.toList.drop o).take n).toArray = xs) : Lies w (some ⟨B, o, none⟩) xs.toList := by
  have := ((Blk.lies h).dropAt o).take n
  rw [← hx]
  simpa using this
/-- A struct that is a part of a block is loaded. -/
theorem val_ldO {K : Value → World → Prop} (h : Hp S w0 w L) {ty : TypeId} {B o n : Nat} {cs xs : Array Value} {T : TypeId} {q : Nat} (hm : At L q (It.blk B cs T)) (hx : ((cs.toList.drop o).take n).toArray = xs) (ht : AggT P ty xs.size) (k : K (.agg xs) w) :
    val P (ldS ty (.pointer (some ⟨B, o, none⟩))) w K := val_ldl ht (by simp) ((h.blk hm).part hx) k
theorem rd_ldO {K : Value → Prop} (h : Hp S w0 w L) {ty : TypeId} {B o n : Nat} {cs xs : Array Value} {T : TypeId} {q : Nat} (hm : At L q (It.blk B cs T)) (hx : ((cs.toList.drop o).take n).toArray = xs) (ht : AggT P ty xs.size) (k : K (.agg xs)) :
    rd P (ldS ty (.pointer (some ⟨B, o, none⟩))) w K := rd_ldl ht (by simp) ((h.blk hm).part hx) k
theorem tk_pldO {K : Value → Prop} (h : Hp S w0 w L) {hi : Nat} {ty : TypeId} {B o n : Nat} {cs xs : Array Value} {T : TypeId} {q : Nat} (hm : At L q (It.blk B cs T)) (hx : ((cs.toList.drop o).take n).toArray = xs) (ht : AggT P ty xs.size) (k : K (.agg xs)) :
    tk P (pT w) hi (ldS ty (.pointer (some ⟨B, o, none⟩))) K := tk_pll ht (by simp) ((h.blk hm).part hx) k
/-- A struct is stored into a part of a block. -/
theorem unt_stO {K : World → Prop} (h : Hp S w0 w L) {j : Nat} {ty : TypeId} {B o : Nat} {cs xs ys : Array Value} {T : TypeId} (hk' : At L j (.blk B cs T)) (ht : AggT P ty xs.size) (hz : o + xs.size ≤ cs.size) (h1 : (xs.toList.all (·.oneCell')) = true) (hy : putAt cs o xs.toList = ys)
    (k : ∀ w1 : World, Only (fun x => x = B) w w1 → Hp S w0 w1 (L.set j (.blk B ys T)) → K w1) : unt P (stS ty (.pointer (some ⟨B, o, none⟩)) (.agg xs)) w K := by
  rw [stS_eq]
  have hk := hk'.get
  have hb : Blk w B cs T := h.get hk
  have hr := run_storeVar_agg (w := w) ht B o T cs hb xs.toList (by simp) (fun u hu => List.all_eq_true.1 h1 u hu) (by simpa using hz)
  rw [hy] at hr
  have ho : Only (fun x => x = B) w (w.setRow B ys) := Only.setRow (S := fun x => x = B) (Only.refl _ _) (fun _ => rfl) _
  refine unt_ok (w1 := w.setRow B ys) ?_ (k _ ho (h.upd hk ho (i' := .blk B ys T) hb.setRow (fun k hk => .inl hk)))
  simpa [Instr.storeAt, Instr.sureAddr] using hr
theorem run_adds {t : TypeId} {b : Bool} {x y : List UInt8} (h : x.length + y.length ≤ 9223372036854775807) (w : World) :
    (bin .add t b (.string ⟨⟨x⟩⟩) (.string ⟨⟨y⟩⟩)).run P w = .ok (.string ⟨⟨x ++ y⟩⟩) w := by
  have h1 := run_string_add_sum (P := P) (w := w) ⟨⟨x⟩⟩ ⟨⟨y⟩⟩ h
  have h2 : (⟨⟨x⟩⟩ ++ ⟨⟨y⟩⟩ : ByteArray) = ⟨⟨x ++ y⟩⟩ := by
    apply ByteArray.ext
    rw [ByteArray.data_append]
    simp
  rw [h2] at h1
  simp [bin, go_sem, h1]
theorem str_beq9 (x y : List UInt8) : ((⟨⟨x⟩⟩ : ByteArray) == ⟨⟨y⟩⟩) = (x == y) := by
  show ((⟨⟨x⟩⟩ : ByteArray).data == (⟨⟨y⟩⟩ : ByteArray).data) = (x == y)
  simp
theorem run_eqs {t : TypeId} {b : Bool} (x y : List UInt8) (w : World) :
    (bin .eql t b (.string ⟨⟨x⟩⟩) (.string ⟨⟨y⟩⟩)).run P w = .ok (.bool (x == y)) w := by
  have h2 : ((⟨⟨x⟩⟩ : ByteArray) == ⟨⟨y⟩⟩) = (x == y) := by
    show ((⟨⟨x⟩⟩ : ByteArray).data == (⟨⟨y⟩⟩ : ByteArray).data) = (x == y)
    simp
  simp [bin, go_sem, h2]
end
end Go.Proofs.YtipeanblfjimdaaDoor
