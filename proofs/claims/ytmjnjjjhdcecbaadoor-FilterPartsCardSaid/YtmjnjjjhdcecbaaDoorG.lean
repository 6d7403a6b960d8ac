/-
  Facts on the 28 names; the contracts of the reference's Names and Forbidden; the law's example.
-/
import Derived.Test.YtmjnjjjhdcecbaaDoorF
import Derived.Lib.Strings
namespace Go.Proofs.YtmjnjjjhdcecbaaDoor
open Go.RowKit

/-- Alike, on lists: what the kernel reckons. -/
def alikeL (a b : ByteArray) : Bool := a.data.toList.map low == b.data.toList.map low
theorem alike_list (a b : ByteArray) : alikeB a b = alikeL a b := by
  unfold alikeB alikeL small
  rw [Lib.toList_data, Lib.toList_data]
theorem forb_list (s : ByteArray) : forb s = namesL.any fun y => alikeL y s := by
  unfold forb
  congr 1
  funext y
  exact alike_list y s
theorem forb_name {y : ByteArray} (h : y ∈ namesL) : forb y = true := by
  unfold forb
  rw [List.any_eq_true]
  exact ⟨y, h, by unfold alikeB; exact beq_self_eq_true _⟩
theorem forb_more : ∀ y ∈ namesL, (namesL.any fun z => alikeL z (⟨y.data ++ #[120]⟩ : ByteArray)) = false := by decide +kernel
theorem forb_yes : forb ⟨#[99, 111, 110, 116, 101, 110, 116, 45, 108, 101, 110, 103, 116, 104]⟩ = true := by rw [forb_list]; decide +kernel
theorem forb_no : forb ⟨#[88, 45, 83, 117, 109]⟩ = false := by rw [forb_list]; decide +kernel

/-- A slice of the 28 names: block b. -/
def Has28 (w : World) (b : Nat) : Prop := ∀ j, j < 28 → w.cell? ⟨b, j, none⟩ = some (.string (namesL.getD j ByteArray.empty))

theorem rnames_any (w : World) : Calls Tryd.prog 8 #[] w fun e w' => e = .returned (.slice (some ⟨w.heap.size, 0, none⟩) 28 28) ∧ Has28 w' w.heap.size ∧ Below w.heap.size w w' ∧ w.heap.size < w'.heap.size := by
  have hh : ∀ arr t, arr = (namesL.map Value.string).toArray → Has28 (w.alloc (.cells arr t)) w.heap.size := by
    intro arr t ha j hj
    rw [World.cell?_alloc_new, ha]
    have h' : j < namesL.length := by rw [namesL_len]; exact hj
    simp [List.getD, List.getElem?_eq_getElem h']
  go_enter Tryd.func8, Tryd.ntmps8
  go_wp2
  go_ret
  exact ⟨rfl, hh _ _ rfl, (Below.refl _ _).alloc (Nat.le_refl _) _, by simp⟩

set_option maxHeartbeats 1000000 in
theorem rforbidden_any (s : ByteArray) (w : World) (hs : s.size ≤ 140737488351232) :
    Calls Tryd.prog 10 #[.string s] w fun e w' => e = .returned (.bool (forb s)) ∧ Below w.heap.size w w' := by
  go_enter Tryd.func10, Tryd.ntmps10
  go_wp2_with fail
  refine (rnames_any w).mono ?_
  rintro e W ⟨rfl, hH, hB, hlt0⟩
  go_wp2
  go_loopw [4] (fun i wr => ∃ k : Nat, i = .int .i64 k ∧ k ≤ 28 ∧ ((namesL.take k).any fun y => alikeB y s) = false ∧ Below (w.heap.size + 1) W wr) (fun i _ => 28 - (intOf i).toNat)
  case atStart => exact ⟨0, rfl, by omega, rfl, Below.refl _ _⟩
  case round =>
    obtain ⟨k, rfl, hk, hne, hb⟩ := hrel
    have hszr := hb.size
    have H := Lib.hid hne
    clear hne
    by_cases hlt : k < 28
    · have hc : wr.cell? ⟨w.heap.size, k, none⟩ = some (.string (namesL.getD k ByteArray.empty)) := (hb.cell (p := ⟨w.heap.size, k, none⟩) (by show w.heap.size < _; omega)).trans (hH k hlt)
      have hmem : namesL.getD k ByteArray.empty ∈ namesL := by
        have h' : k < namesL.length := by rw [namesL_len]; exact hlt
        simp only [List.getD, List.getElem?_eq_getElem h', Option.getD_some]
        exact List.getElem_mem h'
      have hxs := names_size _ hmem
      have htk : namesL.take (k + 1) = namesL.take k ++ [namesL.getD k ByteArray.empty] := by
        have h' : k < namesL.length := by rw [namesL_len]; exact hlt
        rw [List.take_succ_eq_append_getElem h']
        simp [List.getD, List.getElem?_eq_getElem h']
      have hany : ((namesL.take (k + 1)).any fun y => alikeB y s) = alikeB (namesL.getD k ByteArray.empty) s := by rw [htk, List.any_append, H.out]; simp
      have hfo : alikeB (namesL.getD k ByteArray.empty) s = true → forb s = true := fun h => by
        unfold forb
        rw [List.any_eq_true]
        exact ⟨_, hmem, h⟩
      generalize namesL.getD k ByteArray.empty = x at *
      have H2 := Lib.hid hany
      have H3 := Lib.hid hfo
      clear hany hfo htk hmem
      go_wp2_with fail
      refine (rsmall_any x wr (by omega)).mono ?_
      rintro e W1 ⟨rfl, hb1⟩
      have hs1 := hb1.size
      go_wp2_with fail
      refine (rsmall_any s W1 hs).mono ?_
      rintro e W2 ⟨rfl, hb2⟩
      have hb3 := (hb.trans (hb1.mono (by omega))).trans (hb2.mono (by omega))
      cases hq : alikeB x s
      · have hq' : ((small x).toList == (small s).toList) = false := hq
        have HQ := Lib.hid hq
        clear hq
        go_wp2
        go_roundw
        case rel => exact ⟨k + 1, by go_num, by omega, by rw [H2.out, HQ.out], hb3⟩
        case measure => simp [intOf]; omega
      · have hq' : ((small x).toList == (small s).toList) = true := hq
        have HF := H3.out hq
        have HQ := Lib.hid HF
        clear hq HF
        go_wp2
        go_ret
        exact ⟨by rw [HQ.out]; rfl, hB.trans (hb3.mono (by omega))⟩
    · obtain rfl : k = 28 := by omega
      have hf : forb s = false := by
        unfold forb
        have := H.out
        rwa [List.take_of_length_le (by rw [namesL_len]; omega)] at this
      have HQ := Lib.hid hf
      clear hf
      go_wp2
      go_ret
      exact ⟨by rw [HQ.out]; rfl, hB.trans (hb.mono (by omega))⟩

theorem wakes_any (w : World) (he : Ends w) (hT : Tab w) (h1 : 1 < w.heap.size) : Calls Tryd.prog 7 #[] w fun e w' => e = .returned (.bool true) ∧ Below w.heap.size w w' := by
  go_enter Tryd.func7, Tryd.ntmps7
  go_wp2_with fail
  refine (forbidden_any _ w (by decide) he hT h1).mono ?_
  rintro e W1 ⟨rfl, hb1⟩
  have hs1 := hb1.size
  rw [forb_yes]
  go_wp2_with fail
  refine (forbidden_any _ W1 (by decide) (he.kept hb1 h1) (hT.kept hb1 (by omega)) (by omega)).mono ?_
  rintro e W2 ⟨rfl, hb2⟩
  rw [forb_no]
  go_wp2
  go_ret
  exact ⟨rfl, hb1.trans (hb2.mono hs1)⟩
end Go.Proofs.YtmjnjjjhdcecbaaDoor
