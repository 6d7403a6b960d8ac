/-
  The contracts of octet.Alike and of field.Is.
-/
import Derived.Test.YtmjnjjjhdcecbaaDoorC
namespace Go.Proofs.YtmjnjjjhdcecbaaDoor
open Go.RowKit

theorem Ends.kept {w w' : World} (h : Ends w) (hb : Below w.heap.size w w') (h1 : 1 < w.heap.size) : Ends w' :=
  ⟨(hb.cell (p := ⟨1, 2, none⟩) h1).trans h.1, (hb.cell (p := ⟨1, 3, none⟩) h1).trans h.2⟩

/-- Are two texts alike? -/
def alikeB (a b : ByteArray) : Bool := (small a).toList == (small b).toList
theorem alikeB_comm (a b : ByteArray) : alikeB a b = alikeB b a := by unfold alikeB; rw [Bool.eq_iff_iff, beq_iff_eq, beq_iff_eq]; exact ⟨Eq.symm, Eq.symm⟩

set_option maxHeartbeats 400000 in
theorem alike_any (a b : ByteArray) (w : World) (ha : a.size ≤ maxLen) (hb : b.size ≤ maxLen) (he : Ends w) (h1 : 1 < w.heap.size) :
    Calls Tryd.prog 18 #[.string a, .string b] w fun e w' => e = .returned (.bool (alikeB a b)) ∧ Below w.heap.size w w' := by
  go_enter Tryd.func18, Tryd.ntmps18
  go_wp2_with fail
  refine (small_any a w ha he h1).mono ?_
  rintro e w1 ⟨rfl, hb1⟩
  have hs1 := hb1.size
  go_wp2_with fail
  refine (small_any b w1 hb (he.kept hb1 h1) (by omega)).mono ?_
  rintro e w2 ⟨rfl, hb2⟩
  go_wp2
  go_ret
  exact ⟨rfl, hb1.trans (hb2.mono hs1)⟩

set_option maxHeartbeats 400000 in
theorem is_any (n v b : ByteArray) (w : World) (ha : n.size ≤ maxLen) (hb : b.size ≤ maxLen) (he : Ends w) (h1 : 1 < w.heap.size) :
    Calls Tryd.prog 23 #[.agg #[.string n, .string v], .string b] w fun e w' => e = .returned (.bool (alikeB n b)) ∧ Below w.heap.size w w' := by
  have he' : Ends (w.alloc (.cells #[.string n, .string v] 42)) := he.kept ((Below.refl _ _).alloc (Nat.le_refl _) _) h1
  go_enter Tryd.func23, Tryd.ntmps23
  go_wp2_with fail
  refine (alike_any n b _ ha hb he' (by simp; omega)).mono ?_
  rintro e w1 ⟨rfl, hb1⟩
  go_wp2
  go_ret
  exact ⟨rfl, ((Below.refl _ _).alloc (Nat.le_refl _) _).trans (hb1.mono (by simp))⟩
end Go.Proofs.YtmjnjjjhdcecbaaDoor
