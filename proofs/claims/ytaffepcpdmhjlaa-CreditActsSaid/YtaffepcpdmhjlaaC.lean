/-
  The law's example ('wakes') answers true and turns nothing that lay there.
-/
import Derived.Test.YtaffepcpdmhjlaaB
namespace Go.Proofs.Ytaffepcpdmhjlaa
open Go.RowKit

theorem Chg.below {b B : Nat} {w w' : World} (h : Chg b w w') (hB : B ≤ b) (hs : B ≤ w.heap.size) : Below B w w' :=
  ⟨h.os, h.tape, h.output, h.size, fun k hk => h.block k (by omega) (by omega)⟩
theorem Cr.new (w : World) (n : Int) : Cr (w.alloc (.cells #[.int .i64 n, .int .i64 0, .int .i64 0, .int .i64 0] 48)) w.heap.size n 0 0 0 := by
  unfold Cr World.alloc
  simp

theorem Cr.is {w : World} {b : Nat} {o t h g o' t' h' g' : Int} (c : Cr w b o t h g) (e0 : o = o') (e1 : t = t') (e2 : h = h') (e3 : g = g') : Cr w b o' t' h' g' := by subst e0 e1 e2 e3; exact c
/-- New, its world under a name. -/
theorem new_cr (n : Int) (w : World) (h0 : 1 ≤ n) (h1 : n ≤ 65536) :
    Calls Try.prog 8 #[.int .i64 n] w fun e w' => e = .returned (.tuple #[.pointer (some ⟨w.heap.size, 0, none⟩), .int .i64 0]) ∧ Cr w' w.heap.size n 0 0 0 ∧ Below w.heap.size w w' ∧ w.heap.size < w'.heap.size :=
  (new_ok n w h0 h1).mono fun e w' ⟨he, hw⟩ => by
    subst hw
    exact ⟨he, Cr.new w n, (Below.refl _ _).alloc (Nat.le_refl _) _, by simp⟩

set_option maxHeartbeats 400000 in
theorem wakes_any (w : World) : Calls Try.prog 7 #[] w fun e w' => e = .returned (.bool true) ∧ Below w.heap.size w w' := by
  go_enter Try.func7, Try.ntmps7
  go_wp2_with fail
  refine (new_ok 5 w (by omega) (by omega)).mono ?_
  rintro e w1 ⟨rfl, rfl⟩
  have c := Cr.new w 5
  have hB : Below w.heap.size w (w.alloc (.cells #[.int .i64 5, .int .i64 0, .int .i64 0, .int .i64 0] 48)) := (Below.refl _ _).alloc (Nat.le_refl _) _
  have hsz : w.heap.size ≤ (w.alloc (.cells #[.int .i64 5, .int .i64 0, .int .i64 0, .int .i64 0] 48)).heap.size := by simp
  generalize hW : w.alloc (.cells #[.int .i64 5, .int .i64 0, .int .i64 0, .int .i64 0] 48) = W at *
  clear hW
  go_wp2_with fail
  refine (take_any _ 5 0 0 0 3 W c (by omega) (by omega) (by omega)).mono ?_
  rintro e w1 ⟨rfl, c1, h1⟩
  go_wp2_with fail
  refine (take_any _ _ _ 0 0 3 w1 c1 (by decide) (by decide) (by decide)).mono ?_
  rintro e w2 ⟨rfl, c2, h2⟩
  go_wp2_with fail
  refine (use_ok _ _ _ _ 0 4 w2 c2 (by decide) (by decide) (by decide) (by decide)).mono ?_
  rintro e w3 ⟨rfl, c3, h3⟩
  go_wp2_with fail
  refine (give_big _ _ _ _ 0 5 w3 c3 (by decide) (by decide)).mono ?_
  rintro e w4 ⟨rfl, c4, h4⟩
  go_wp2_with fail
  refine (give_ok _ _ _ _ 0 4 w4 c4 (by decide) (by decide) (by decide) (by decide) (by decide) (by decide)).mono ?_
  rintro e w5 ⟨rfl, c5, h5⟩
  go_wp2_with fail
  refine (ret_ok _ _ _ _ _ 1 w5 c5 (by decide) (by decide) (by decide) (by decide)).mono ?_
  rintro e w6 ⟨rfl, c6, h6⟩
  go_wp2_with fail
  refine (open_any _ _ _ _ _ w6 c6).mono ?_
  rintro e w7 ⟨rfl, rfl⟩
  go_wp2
  go_ret
  have hh := ((((((h1.trans h2).trans h3).trans h4).trans h5).trans h6)).below (Nat.le_refl _) hsz
  exact ⟨rfl, hB.trans hh⟩
/-- What Take may take. -/
theorem took_in (n o : Int) (h : 0 ≤ o) : 0 ≤ took n o ∧ took n o ≤ o := by unfold took; split <;> (try split) <;> omega

theorem Chg.cell {b : Nat} {w w' : World} (h : Chg b w w') {p : Addr} (hp : p.block < w.heap.size) (hb : p.block ≠ b) : w'.cell? p = w.cell? p := World.cell?_of_block (w := w) (h.block p.block hp hb)
end Go.Proofs.Ytaffepcpdmhjlaa
