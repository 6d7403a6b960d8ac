/-
  The contract of wire.NewDrain.
-/
import Derived.Test.YtellnnkgfjhmpaaI
namespace Go.Proofs.Ytellnnkgfjhmpaa
open Go.RowKit

set_option maxHeartbeats 1000000 in
theorem newDrain_no {ok : Nat → Prop} (tv : Value) (T : List Int) (en : Int) (w : World) (h : Ints ok w tv T) (hl : T.length ≤ 100000) (hbad : anyNeg T = true ∨ en < 0 ∨ 2 < en) :
    Calls Try.prog 16 #[.agg #[tv, .int .i64 en]] w fun e w' => e = .returned (.tuple #[.pointer none, .int .i64 1]) ∧ Below w.heap.size w w' := by
  obtain ⟨o, cap, rfl, _, _, _⟩ := h.form
  by_cases hen : 0 ≤ en ∧ en ≤ 2
  · have hn : anyNeg T = true := by
      rcases hbad with h | h
      · exact h
      · omega
    have hc := h.kept (Frm.of_below (ok := fun _ => True) ((Below.refl w.heap.size w).alloc (Nat.le_refl _) (.cells #[.slice o T.length cap, .int .i64 en] 49)) (fun q hq _ => hq)) (fun _ _ _ => trivial)
    have HC := contains_any _ T _ hc (by omega)
    rw [hn] at HC
    clear h hc hbad
    go_enter Try.func16, Try.ntmps16
    go_wp2_with fail
    refine (right_yes en _ hen.1 hen.2).mono ?_
    rintro e w' ⟨rfl, rfl⟩
    go_wp2_with fail
    refine HC.mono ?_
    rintro e w' ⟨rfl, rfl⟩
    go_wp2
    go_ret2
    exact ⟨rfl, (Below.refl _ _).alloc (Nat.le_refl _) _⟩
  · clear h hbad
    go_enter Try.func16, Try.ntmps16
    go_wp2_with fail
    refine (right_no en _ (by omega)).mono ?_
    rintro e w' ⟨rfl, rfl⟩
    go_wp2
    go_ret2
    exact ⟨rfl, (Below.refl _ _).alloc (Nat.le_refl _) _⟩

theorem Drn.fresh {w w5 : World} {B : Nat} {o5 : Option Addr} {c5 : Nat} {T : List Int} {en : Int} (hown : w5.ownsRow B 3 1 (.slice o5 T.length c5) T.length (T.map (Value.int .i64))) (hB : w.heap.size ≤ B) (h5 : w.heap.size ≤ w5.heap.size) :
    (w.heap.size ≤ w5.heap.size ∧ w5.heap.size < (w5.alloc (.cells #[.slice o5 T.length c5, .int .i64 en, .slice none 0 0, .bool false, .bool false] 74)).heap.size) ∧
    Drn (w5.alloc (.cells #[.slice o5 T.length c5, .int .i64 en, .slice none 0 0, .bool false, .bool false] 74)) w5.heap.size (w5.alloc (.cells #[.slice o5 T.length c5, .int .i64 en, .slice none 0 0, .bool false, .bool false] 74)).heap.size
      (fun q => w.heap.size ≤ q ∧ q < (w5.alloc (.cells #[.slice o5 T.length c5, .int .i64 en, .slice none 0 0, .bool false, .bool false] 74)).heap.size) (.slice none 0 0) T en [] false false := by
  have h1 : Ints (fun q => B ≤ q ∧ q < w5.heap.size) w5 (.slice o5 T.length c5) T := Ints.of_owns hown rfl (fun q h1 h2 => ⟨h1, h2⟩)
  have hsz : (w5.alloc (.cells #[.slice o5 T.length c5, .int .i64 en, .slice none 0 0, .bool false, .bool false] 74)).heap.size = w5.heap.size + 1 := World.size_alloc _ _
  refine ⟨⟨h5, by rw [hsz]; omega⟩, _, heap_alloc_new w5 _, ?_, World.ownsRow_nil _ _ _ _, by simp [Value.ownBlock]⟩
  refine (h1.kept ((Frm.refl (fun q => q < w5.heap.size) w5).alloc _) (fun q hq _ => hq)).mono (fun q _ hq => ⟨⟨by omega, by rw [hsz]; omega⟩, by omega, by simp [Value.ownBlock]⟩)

set_option maxRecDepth 100000 in
set_option maxHeartbeats 2000000 in
theorem newDrain_ok {ok : Nat → Prop} (tv : Value) (T : List Int) (en : Int) (w : World) (h : Ints ok w tv T) (hl : T.length ≤ 1000) (hT : anyNeg T = false) (h0 : 0 ≤ en) (h2 : en ≤ 2) :
    Calls Try.prog 16 #[.agg #[tv, .int .i64 en]] w fun e w' => ∃ b, e = .returned (.tuple #[.pointer (some ⟨b, 0, none⟩), .int .i64 0]) ∧ (w.heap.size ≤ b ∧ b < w'.heap.size) ∧
      Drn w' b w'.heap.size (fun q => w.heap.size ≤ q ∧ q < w'.heap.size) (.slice none 0 0) T en [] false false ∧ Below w.heap.size w w' := by
  obtain ⟨o, cap, rfl, _, _, _⟩ := h.form
  have hB0 : Below w.heap.size w (w.alloc (.cells #[.slice o T.length cap, .int .i64 en] 49)) := (Below.refl w.heap.size w).alloc (Nat.le_refl _) _
  have hc := h.kept (Frm.of_below (ok := fun _ => True) hB0 (fun q hq _ => hq)) (fun _ _ _ => trivial)
  have hr := heap_alloc_new w (.cells #[.slice o T.length cap, .int .i64 en] 49)
  have HC := contains_any _ T _ hc (by omega)
  rw [hT] at HC
  have HR := right_yes en (w.alloc (.cells #[.slice o T.length cap, .int .i64 en] 49)) h0 h2
  have c0 : (w.alloc (.cells #[.slice o T.length cap, .int .i64 en] 49)).cell? ⟨w.heap.size, 0, none⟩ = some (.slice o T.length cap) := (cell_of_row _ _ 0 _ _ _ hr).trans rfl
  have c1 : (w.alloc (.cells #[.slice o T.length cap, .int .i64 en] 49)).cell? ⟨w.heap.size, 1, none⟩ = some (.int .i64 en) := (cell_of_row _ _ 1 _ _ _ hr).trans rfl
  go_enter Try.func16, Try.ntmps16
  go_wp2_with fail
  refine HR.mono ?_
  rintro e w' ⟨rfl, rfl⟩
  go_wp2_with fail
  refine HC.mono ?_
  rintro e w' ⟨rfl, rfl⟩
  clear h HC HR
  have hsz : w.heap.size < (w.alloc (.cells #[.slice o T.length cap, .int .i64 en] 49)).heap.size := by rw [World.size_alloc]; omega
  generalize w.alloc (.cells #[.slice o T.length cap, .int .i64 en] 49) = W at *
  have hS : ∀ w', Below W.heap.size W w' → (w'.cell? ⟨w.heap.size, 0, none⟩ = some (.slice o T.length cap) ∧ w'.cell? ⟨w.heap.size, 1, none⟩ = some (.int .i64 en)) := fun w' hf => ⟨(hf.cell (p := ⟨w.heap.size, 0, none⟩) hsz).trans c0, (hf.cell (p := ⟨w.heap.size, 1, none⟩) hsz).trans c1⟩
  have HS := Lib.hid hS
  clear hS
  go_wp2_with fail
  go_region_law (go_simp; go_at_call 28; (with_reducible refine (cloneInts_any (ok := ok) (.slice o T.length cap) T _ ?_ (by omega)).mono ?_); exact hc.kept (Frm.refl (fun _ => True) _).drew (fun _ _ _ => trivial); rintro e w5 ⟨o5, c5, rfl, hown5, hb5⟩; have hb5' := below_undrew hb5; obtain ⟨d0, d1⟩ := HS.out _ hb5')
  all_goals
    have hz5 := hb5'.size
    have hfr := Drn.fresh (w := w) (en := en) hown5 (by show w.heap.size ≤ W.heap.size; omega) (by omega)
    have hbf : Below w.heap.size w (w5.alloc (.cells #[.slice o5 T.length c5, .int .i64 en, .slice none 0 0, .bool false, .bool false] 74)) := (hB0.trans (hb5'.mono (by show w.heap.size ≤ W.heap.size; omega))).alloc (by omega) _
    have HFR := Lib.hid hfr
    have HBF := Lib.hid hbf
    clear hfr hbf hown5
    go_wp2
    go_ret2
    exact ⟨_, rfl, HFR.out.1, HFR.out.2, HBF.out⟩
end Go.Proofs.Ytellnnkgfjhmpaa
