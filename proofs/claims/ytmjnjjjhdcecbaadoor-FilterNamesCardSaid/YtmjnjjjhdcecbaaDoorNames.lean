/-
  FilterNames: any name may be a trailer's, or not, as the document says, however its letters are written: true for every name and i; the two package-level tables are tied to the program's text; no other condition.
-/
import Derived.Test.YtmjnjjjhdcecbaaDoorG
namespace Go.Proofs.YtmjnjjjhdcecbaaDoor
open Go.RowKit

set_option maxHeartbeats 1000000 in
theorem names_long (s : ByteArray) (i : Int) (w : World) (hs : s.size ≤ maxLen) (hl : 300 < s.size) (he : Ends w) (hT : Tab w) (h1 : 1 < w.heap.size) :
    Calls Tryd.prog 3 #[.string s, .int .u8 i] w fun e w' => e = .returned (.bool true) ∧ Below w.heap.size w w' := by
  unfold maxLen at hs
  go_enter Tryd.func3, Tryd.ntmps3
  go_wp2_with fail
  refine (wakes_any w he hT h1).mono ?_
  rintro e W1 ⟨rfl, hb1⟩
  go_wp2
  go_ret
  exact ⟨rfl, hb1⟩

set_option maxHeartbeats 1000000 in
theorem names_walk (s : ByteArray) (i : Int) (w : World) (hl : s.size ≤ 300) (hi0 : 0 ≤ i) (hi1 : i ≤ 255) (he : Ends w) (hT : Tab w) (h1 : 1 < w.heap.size) :
    Calls Tryd.prog 3 #[.string s, .int .u8 i] w fun e w' => e = .returned (.bool true) ∧ Below w.heap.size w w' := by
  obtain ⟨k, rfl⟩ := Int.eq_ofNat_of_zero_le hi0
  go_enter Tryd.func3, Tryd.ntmps3
  go_wp2_with fail
  refine (wakes_any w he hT h1).mono ?_
  rintro e W1 ⟨rfl, hb1⟩
  have hs1 := hb1.size
  go_wp2_with fail
  refine (rnames_any W1).mono ?_
  rintro e W2 ⟨rfl, hH, hb2, hlt2⟩
  have hB2 := hb1.trans (hb2.mono hs1)
  have he2 := he.kept hB2 h1
  have hT2 := hT.kept hB2 (by omega)
  have hk28 : k % 28 < 28 := Nat.mod_lt _ (by omega)
  have hc := hH (k % 28) hk28
  have hmem : namesL.getD (k % 28) ByteArray.empty ∈ namesL := by
    have h' : k % 28 < namesL.length := by rw [namesL_len]; exact hk28
    simp only [List.getD, List.getElem?_eq_getElem h', Option.getD_some]
    exact List.getElem_mem h'
  generalize namesL.getD (k % 28) ByteArray.empty = x at *
  have hxs := names_size _ hmem
  clear hH
  go_wp2_with fail
  refine (forbidden_any s W2 (by unfold maxLen; omega) he2 hT2 (by omega)).mono ?_
  rintro e W3 ⟨rfl, hb3⟩
  have hs3 := hb3.size
  go_wp2_with fail
  refine (rforbidden_any s W3 (by omega)).mono ?_
  rintro e W4 ⟨rfl, hb4⟩
  have hs4 := hb4.size
  have hB4 := (hB2.trans (hb3.mono (by omega))).trans (hb4.mono (by omega))
  go_wp2_with fail
  refine (forbidden_any x W4 (by unfold maxLen; omega) (he.kept hB4 h1) (hT.kept hB4 (by omega)) (by omega)).mono ?_
  rintro e W5 ⟨rfl, hb5⟩
  have hs5 := hb5.size
  have hB5 := hB4.trans (hb5.mono (by omega))
  rw [forb_name hmem]
  go_wp2_with fail
  have hxx : forb (x ++ (⟨#[120]⟩ : ByteArray)) = false := by
    rw [show x ++ (⟨#[120]⟩ : ByteArray) = ⟨x.data ++ #[120]⟩ from by ext1; simp, forb_list]
    exact forb_more x hmem
  have hsx : (x ++ (⟨#[120]⟩ : ByteArray)).size ≤ maxLen := by
    rw [ByteArray.size_append]
    show x.size + 1 ≤ maxLen
    unfold maxLen
    omega
  refine (forbidden_any _ W5 hsx (he.kept hB5 h1) (hT.kept hB5 (by omega)) (by omega)).mono ?_
  rintro e W6 ⟨rfl, hb6⟩
  rw [hxx]
  clear hxx
  go_wp2
  go_ret
  exact ⟨rfl, hB5.trans (hb6.mono (by omega))⟩

theorem names_any2 (s : ByteArray) (i : Int) (w : World) (hs : s.size ≤ maxLen) (hi0 : 0 ≤ i) (hi1 : i ≤ 255) (he : Ends w) (hT : Tab w) (h1 : 1 < w.heap.size) :
    Calls Tryd.prog 3 #[.string s, .int .u8 i] w fun e w' => e = .returned (.bool true) ∧ Below w.heap.size w w' := by
  by_cases hl : s.size ≤ 300
  · exact names_walk s i w hl hi0 hi1 he hT h1
  · exact names_long s i w hs (by omega) he hT h1
end Go.Proofs.YtmjnjjjhdcecbaaDoor
