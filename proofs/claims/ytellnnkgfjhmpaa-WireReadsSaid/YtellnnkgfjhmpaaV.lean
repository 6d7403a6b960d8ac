/-
  A source that is not; reading nothing, or of a shut source; Shut.
-/
import Derived.Test.YtellnnkgfjhmpaaF
namespace Go.Proofs.Ytellnnkgfjhmpaa
open Go.RowKit

theorem newSource_no {ok : Nat → Prop} (v : Value) (L : List (List UInt8)) (en : Int) (w : World) (h : Pieces ok w v L) (hen : en < 0 ∨ 2 < en) :
    Calls Try.prog 10 #[.agg #[v, .int .i64 en]] w fun e w' => e = .returned (.tuple #[.pointer none, .int .i64 1]) ∧ Below w.heap.size w w' := by
  obtain ⟨o, cap, rfl, _, _, _⟩ := h
  go_enter Try.func10, Try.ntmps10
  go_wp2_with fail
  refine (right_no en _ hen).mono ?_
  rintro e w' ⟨rfl, rfl⟩
  go_wp2
  go_ret2
  exact ⟨rfl, (Below.refl _ _).alloc (Nat.le_refl _) _⟩

set_option maxHeartbeats 1000000 in
theorem read_early (b : Nat) (M : Nat → Prop) (g : Nat) (L : List (List UInt8)) (beg : Bool) (en rd n : Int) (sh : Bool) (w : World) (hs : Src w b M g L beg en rd sh) (h : n < 1 ∨ sh = true) :
    Calls Try.prog 11 #[.pointer (some ⟨b, 0, none⟩), .int .i64 n] w fun e w' => e = .returned (.tuple #[.slice none 0 0, .int .i64 (if n < 1 then 1 else 8)]) ∧ w = w' := by
  have hc : w.cell? ⟨b, 4, none⟩ = some (.bool sh) := by
    obtain ⟨o, c, h1⟩ := hs.cells
    simp [World.cell?, h1]
  by_cases hn : n < 1
  · rw [if_pos hn]
    go_enter Try.func11, Try.ntmps11
    go_wp2
    try go_step3
    try go_wp2
    try rw [Exit.noGoto_ret]
    go_ret2
    exact ⟨rfl, rfl⟩
  · rw [if_neg hn]
    obtain rfl : sh = true := by
      rcases h with h | h
      · exact (hn h).elim
      · exact h
    go_enter Try.func11, Try.ntmps11
    go_wp2
    try go_step3
    try go_wp2
    try rw [Exit.noGoto_ret]
    go_ret2
    exact ⟨rfl, rfl⟩

theorem Src.shut {w : World} {b g : Nat} {M : Nat → Prop} {L : List (List UInt8)} {beg : Bool} {en rd : Int} {sh : Bool} (h : Src w b M g L beg en rd sh) (sh' : Bool) : Src (w.setCell ⟨b, 4, none⟩ (.bool sh')) b M g L beg en rd sh' :=
  h.upd ((Frm.refl _ _).setCell _ _ _ (fun _ h => h rfl)) (fun _ h => row_setCell' h)

theorem shut_any (b : Nat) (M : Nat → Prop) (g : Nat) (L : List (List UInt8)) (beg : Bool) (en rd : Int) (sh : Bool) (w : World) (hs : Src w b M g L beg en rd sh) :
    Calls Try.prog 15 #[.pointer (some ⟨b, 0, none⟩)] w fun e w' => (∃ v, e = .returned v) ∧ Src w' b M g L beg en rd true ∧ Frm (fun q => q ≠ b) w w' := by
  have hc : w.cell? ⟨b, 4, none⟩ = some (.bool sh) := by
    obtain ⟨o, c, h1⟩ := hs.cells
    simp [World.cell?, h1]
  have hf : w.frozen? ⟨b, 4, none⟩ = false := by
    obtain ⟨o, c, h1⟩ := hs.cells
    simp [World.frozen?, h1]
  have HS := Lib.hid (hs.shut true)
  have HF := Lib.hid (show Frm (fun q => q ≠ b) w (w.setCell ⟨b, 4, none⟩ (.bool true)) from (Frm.refl _ _).setCell _ _ _ (fun _ h => h rfl))
  go_enter Try.func15, Try.ntmps15
  go_wp2
  refine bodyPost_end (v := .tuple #[]) (by simp [results, Try.results15, go_sem]) rfl ⟨⟨_, rfl⟩, HS.out, HF.out⟩
end Go.Proofs.Ytellnnkgfjhmpaa
