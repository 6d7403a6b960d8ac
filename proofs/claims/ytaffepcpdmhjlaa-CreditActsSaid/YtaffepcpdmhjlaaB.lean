/-
  The contracts of package credit's methods, of New and of the law's own 'do', over a credit that lies in a block of its own.
-/
import Derived.Test.YtaffepcpdmhjlaaA
namespace Go.Proofs.Ytaffepcpdmhjlaa
open Go.RowKit

/-- How many units Take takes. -/
def took (n o : Int) : Int := if n < 0 then 0 else if n ≤ o then n else o

set_option maxHeartbeats 400000 in
theorem take_walk (b : Nat) (o t h g n m : Int) (w : World) (c : Cr w b o t h g) (h2 : 0 ≤ t) (h4 : 0 ≤ o) (h3 : o + t ≤ 65536)
    (hm : n < 0 ∧ m = 0 ∨ 0 ≤ n ∧ n ≤ o ∧ m = n ∨ o < n ∧ m = o) :
    Calls Try.prog 9 #[.pointer (some ⟨b, 0, none⟩), .int .i64 n] w (Ends b w (.int .i64 m) (o - m) (t + m) h g) := by
  obtain ⟨c0, c1, c2, c3⟩ := c.cells
  rcases hm with ⟨hn, rfl⟩ | ⟨hn, hn2, rfl⟩ | ⟨hn, rfl⟩
  all_goals
    go_enter Try.func9, Try.ntmps9
    go_wp2_with fail
    refine (move_take b _ t h g _ w c (by omega) (by omega) h2 h3).mono ?_
    rintro e w1 ⟨rfl, c', h'⟩
    go_wp2
    go_ret
    exact ⟨rfl, c', h'⟩

theorem take_any (b : Nat) (o t h g n : Int) (w : World) (c : Cr w b o t h g) (h2 : 0 ≤ t) (h4 : 0 ≤ o) (h3 : o + t ≤ 65536) :
    Calls Try.prog 9 #[.pointer (some ⟨b, 0, none⟩), .int .i64 n] w (Ends b w (.int .i64 (took n o)) (o - took n o) (t + took n o) h g) :=
  take_walk b o t h g n _ w c h2 h4 h3 (by unfold took; split <;> (try split) <;> omega)

set_option maxHeartbeats 400000 in
theorem use_ok (b : Nat) (o t h g n : Int) (w : World) (c : Cr w b o t h g) (h0 : 0 ≤ n) (h1 : n ≤ t) (h2 : 0 ≤ h) (h3 : t + h ≤ 65536) :
    Calls Try.prog 10 #[.pointer (some ⟨b, 0, none⟩), .int .i64 n] w (Ends b w (.int .i64 0) o (t - n) (h + n) g) := by
  go_enter Try.func10, Try.ntmps10
  go_wp2_with fail
  refine (move_use b o t h g n w c h0 h1 h2 h3).mono ?_
  rintro e w1 ⟨rfl, c', h'⟩
  go_wp2
  go_ret
  exact ⟨rfl, c', h'⟩
set_option maxHeartbeats 400000 in
theorem use_neg (b : Nat) (o t h g n : Int) (w : World) (c : Cr w b o t h g) (h0 : n < 0) :
    Calls Try.prog 10 #[.pointer (some ⟨b, 0, none⟩), .int .i64 n] w (Ends b w (.int .i64 1) o t h g) := by
  go_enter Try.func10, Try.ntmps10
  go_wp2_with fail
  refine (move_neg b o t h g n _ _ w c h0).mono ?_
  rintro e w1 ⟨rfl, c', h'⟩
  go_wp2
  go_ret
  exact ⟨rfl, c', h'⟩
set_option maxHeartbeats 400000 in
theorem use_big (b : Nat) (o t h g n : Int) (w : World) (c : Cr w b o t h g) (h0 : 0 ≤ n) (h1 : t < n) :
    Calls Try.prog 10 #[.pointer (some ⟨b, 0, none⟩), .int .i64 n] w (Ends b w (.int .i64 7) o t h g) := by
  go_enter Try.func10, Try.ntmps10
  go_wp2_with fail
  refine (move_big1 b o t h g n _ w c h0 h1).mono ?_
  rintro e w1 ⟨rfl, c', h'⟩
  go_wp2
  go_ret
  exact ⟨rfl, c', h'⟩
set_option maxHeartbeats 400000 in
theorem ret_ok (b : Nat) (o t h g n : Int) (w : World) (c : Cr w b o t h g) (h0 : 0 ≤ n) (h1 : n ≤ t) (h2 : 0 ≤ o) (h3 : o + t ≤ 65536) :
    Calls Try.prog 18 #[.pointer (some ⟨b, 0, none⟩), .int .i64 n] w (Ends b w (.int .i64 0) (o + n) (t - n) h g) := by
  go_enter Try.func18, Try.ntmps18
  go_wp2_with fail
  refine (move_back b o t h g n w c h0 h1 h2 h3).mono ?_
  rintro e w1 ⟨rfl, c', h'⟩
  go_wp2
  go_ret
  exact ⟨rfl, c', h'⟩
set_option maxHeartbeats 400000 in
theorem ret_neg (b : Nat) (o t h g n : Int) (w : World) (c : Cr w b o t h g) (h0 : n < 0) :
    Calls Try.prog 18 #[.pointer (some ⟨b, 0, none⟩), .int .i64 n] w (Ends b w (.int .i64 1) o t h g) := by
  go_enter Try.func18, Try.ntmps18
  go_wp2_with fail
  refine (move_neg b o t h g n _ _ w c h0).mono ?_
  rintro e w1 ⟨rfl, c', h'⟩
  go_wp2
  go_ret
  exact ⟨rfl, c', h'⟩
set_option maxHeartbeats 400000 in
theorem ret_big (b : Nat) (o t h g n : Int) (w : World) (c : Cr w b o t h g) (h0 : 0 ≤ n) (h1 : t < n) :
    Calls Try.prog 18 #[.pointer (some ⟨b, 0, none⟩), .int .i64 n] w (Ends b w (.int .i64 7) o t h g) := by
  go_enter Try.func18, Try.ntmps18
  go_wp2_with fail
  refine (move_big1 b o t h g n _ w c h0 h1).mono ?_
  rintro e w1 ⟨rfl, c', h'⟩
  go_wp2
  go_ret
  exact ⟨rfl, c', h'⟩
set_option maxHeartbeats 400000 in
theorem give_neg (b : Nat) (o t h g n : Int) (w : World) (c : Cr w b o t h g) (h0 : n < 0) :
    Calls Try.prog 11 #[.pointer (some ⟨b, 0, none⟩), .int .i64 n] w (Ends b w (.int .i64 1) o t h g) := by
  go_enter Try.func11, Try.ntmps11
  go_wp2_with fail
  refine (move_neg b o t h g n _ _ w c h0).mono ?_
  rintro e w1 ⟨rfl, c', h'⟩
  go_wp2
  go_ret
  exact ⟨rfl, c', h'⟩
set_option maxHeartbeats 400000 in
theorem give_big (b : Nat) (o t h g n : Int) (w : World) (c : Cr w b o t h g) (h0 : 0 ≤ n) (h1 : h < n) :
    Calls Try.prog 11 #[.pointer (some ⟨b, 0, none⟩), .int .i64 n] w (Ends b w (.int .i64 7) o t h g) := by
  go_enter Try.func11, Try.ntmps11
  go_wp2_with fail
  refine (move_big2 b o t h g n _ w c h0 h1).mono ?_
  rintro e w1 ⟨rfl, c', h'⟩
  go_wp2
  go_ret
  exact ⟨rfl, c', h'⟩
set_option maxHeartbeats 400000 in
theorem give_ok (b : Nat) (o t h g n : Int) (w : World) (c : Cr w b o t h g) (h0 : 0 ≤ n) (h1 : n ≤ h) (h2 : 0 ≤ o) (h3 : o + h ≤ 65536) (h4 : 0 ≤ g) (h5 : g ≤ 1000000000) :
    Calls Try.prog 11 #[.pointer (some ⟨b, 0, none⟩), .int .i64 n] w (Ends b w (.int .i64 0) (o + n) t (h - n) (g + n)) := by
  go_enter Try.func11, Try.ntmps11
  go_wp2_with fail
  refine (move_give b o t h g n w c h0 h1 h2 h3).mono ?_
  rintro e w1 ⟨rfl, c', h'⟩
  obtain ⟨c0, c1, c2, c3⟩ := c'.cells
  obtain ⟨f0, f1, f2, f3⟩ := c'.free
  go_wp2
  go_ret
  exact ⟨rfl, c'.set3 _, h'.setCell _ _⟩
theorem held_any (b : Nat) (o t h g : Int) (w : World) (c : Cr w b o t h g) :
    Calls Try.prog 12 #[.pointer (some ⟨b, 0, none⟩)] w fun e w' => e = .returned (.int .i64 h) ∧ w = w' := by
  obtain ⟨c0, c1, c2, c3⟩ := c.cells
  go_enter Try.func12, Try.ntmps12
  go_wp2
  go_ret
  exact ⟨rfl, rfl⟩
theorem open_any (b : Nat) (o t h g : Int) (w : World) (c : Cr w b o t h g) :
    Calls Try.prog 13 #[.pointer (some ⟨b, 0, none⟩)] w fun e w' => e = .returned (.int .i64 o) ∧ w = w' := by
  obtain ⟨c0, c1, c2, c3⟩ := c.cells
  go_enter Try.func13, Try.ntmps13
  go_wp2
  go_ret
  exact ⟨rfl, rfl⟩
theorem taken_any (b : Nat) (o t h g : Int) (w : World) (c : Cr w b o t h g) :
    Calls Try.prog 17 #[.pointer (some ⟨b, 0, none⟩)] w fun e w' => e = .returned (.int .i64 t) ∧ w = w' := by
  obtain ⟨c0, c1, c2, c3⟩ := c.cells
  go_enter Try.func17, Try.ntmps17
  go_wp2
  go_ret
  exact ⟨rfl, rfl⟩
theorem grants_any (b : Nat) (o t h g : Int) (w : World) (c : Cr w b o t h g) :
    Calls Try.prog 14 #[.pointer (some ⟨b, 0, none⟩)] w fun e w' => e = .returned (.int .i64 g) ∧ w = w' := by
  obtain ⟨c0, c1, c2, c3⟩ := c.cells
  go_enter Try.func14, Try.ntmps14
  go_wp2
  go_ret
  exact ⟨rfl, rfl⟩

theorem new_ok (n : Int) (w : World) (h0 : 1 ≤ n) (h1 : n ≤ 65536) :
    Calls Try.prog 8 #[.int .i64 n] w fun e w' => e = .returned (.tuple #[.pointer (some ⟨w.heap.size, 0, none⟩), .int .i64 0]) ∧ w' = w.alloc (.cells #[.int .i64 n, .int .i64 0, .int .i64 0, .int .i64 0] 48) := by
  go_enter Try.func8, Try.ntmps8
  go_wp2
  go_ret2
  exact ⟨rfl, rfl⟩
theorem new_no (n : Int) (w : World) (h0 : n < 1 ∨ 65536 < n) :
    Calls Try.prog 8 #[.int .i64 n] w fun e w' => e = .returned (.tuple #[.pointer none, .int .i64 1]) ∧ w = w' := by
  rcases h0 with h0 | h0
  · go_enter Try.func8, Try.ntmps8
    go_wp2
    go_ret2
    exact ⟨rfl, rfl⟩
  · have h1 : ¬ n < 1 := by omega
    go_enter Try.func8, Try.ntmps8
    go_wp2
    go_ret2
    exact ⟨rfl, rfl⟩
end Go.Proofs.Ytaffepcpdmhjlaa
