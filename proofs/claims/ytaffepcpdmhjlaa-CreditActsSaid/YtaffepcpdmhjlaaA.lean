/-
  Memory words (one block of cells; what a call may have turned), and the contracts of package credit's methods over a credit that lies in a block of its own.
-/
import Derived.Test.YtaffepcpdmhjlaaRows
import Derived.WalkKit
import Derived.WalkSpells
import Derived.WalkLawsBesides
import Derived.ChangeAlike
import Derived.RegionTactic
import Derived.BigRegion
import Derived.OneCell
namespace Go.Proofs.Ytaffepcpdmhjlaa
open Go.RowKit

/-- Of the blocks that lay there only block b may have turned; none has gone. -/
structure Chg (b : Nat) (w w' : World) : Prop where
  os : w'.os = w.os
  tape : w'.tape = w.tape
  output : w'.output = w.output
  size : w.heap.size ≤ w'.heap.size
  block : ∀ k, k < w.heap.size → k ≠ b → w'.heap[k]? = w.heap[k]?

theorem Chg.refl (b : Nat) (w : World) : Chg b w w := ⟨rfl, rfl, rfl, Nat.le_refl _, fun _ _ _ => rfl⟩
theorem Chg.trans {b : Nat} {w w1 w2 : World} (h : Chg b w w1) (k : Chg b w1 w2) : Chg b w w2 :=
  ⟨k.os.trans h.os, k.tape.trans h.tape, k.output.trans h.output, Nat.le_trans h.size k.size, fun i hi hb => (k.block i (Nat.lt_of_lt_of_le hi h.size) hb).trans (h.block i hi hb)⟩
theorem Chg.drew {b : Nat} {w w1 : World} (h : Chg b w w1) : Chg b w w1.drew := ⟨h.os, h.tape, h.output, h.size, h.block⟩
theorem Chg.setCell {b : Nat} {w w1 : World} (h : Chg b w w1) (i : Nat) (v : Value) : Chg b w (w1.setCell ⟨b, i, none⟩ v) :=
  ⟨h.os, h.tape, h.output, by rw [World.size_setCell]; exact h.size, fun k hk hb => (Below.heap_setCell _ _ _ _ hb).trans (h.block k hk hb)⟩

/-- A credit: block b holds its three kinds and its grants. -/
def Cr (w : World) (b : Nat) (o t h g : Int) : Prop := w.heap[b]? = some (.cells #[.int .i64 o, .int .i64 t, .int .i64 h, .int .i64 g] 48 (0, 0))

theorem Cr.cells {w : World} {b : Nat} {o t h g : Int} (c : Cr w b o t h g) :
    w.cell? ⟨b, 0, none⟩ = some (.int .i64 o) ∧ w.cell? ⟨b, 1, none⟩ = some (.int .i64 t) ∧ w.cell? ⟨b, 2, none⟩ = some (.int .i64 h) ∧ w.cell? ⟨b, 3, none⟩ = some (.int .i64 g) := by
  unfold Cr at c
  simp [World.cell?, c]
theorem Cr.free {w : World} {b : Nat} {o t h g : Int} (c : Cr w b o t h g) :
    w.frozen? ⟨b, 0, none⟩ = false ∧ w.frozen? ⟨b, 1, none⟩ = false ∧ w.frozen? ⟨b, 2, none⟩ = false ∧ w.frozen? ⟨b, 3, none⟩ = false := by
  unfold Cr at c
  simp [World.frozen?, c]

theorem row_setCell {w : World} {b i : Nat} {cs : Array Value} {t : TypeId} {v : Value} (h : w.heap[b]? = some (.cells cs t (0, 0))) :
    (w.setCell ⟨b, i, none⟩ v).heap[b]? = some (.cells (cs.setIfInBounds i v) t (0, 0)) := by
  have hlt := lt_of_block h
  have h' : w.heap[b] = .cells cs t (0, 0) := by simpa [Array.getElem?_eq_getElem hlt] using h
  show (w.heap.modify b _)[b]? = _
  rw [Array.getElem?_eq_getElem (by simpa using hlt), Array.getElem_modify_self, h']
  rfl
theorem Cr.set0 {w : World} {b : Nat} {o t h g : Int} (c : Cr w b o t h g) (v : Int) : Cr (w.setCell ⟨b, 0, none⟩ (.int .i64 v)) b v t h g := row_setCell c
theorem Cr.set1 {w : World} {b : Nat} {o t h g : Int} (c : Cr w b o t h g) (v : Int) : Cr (w.setCell ⟨b, 1, none⟩ (.int .i64 v)) b o v h g := row_setCell c
theorem Cr.set2 {w : World} {b : Nat} {o t h g : Int} (c : Cr w b o t h g) (v : Int) : Cr (w.setCell ⟨b, 2, none⟩ (.int .i64 v)) b o t v g := row_setCell c
theorem Cr.set3 {w : World} {b : Nat} {o t h g : Int} (c : Cr w b o t h g) (v : Int) : Cr (w.setCell ⟨b, 3, none⟩ (.int .i64 v)) b o t h v := row_setCell c
theorem Cr.drew {w : World} {b : Nat} {o t h g : Int} (c : Cr w b o t h g) : Cr w.drew b o t h g := c

/-- What a call on a credit comes to: what it tells, and what the credit then holds. -/
def Ends (b : Nat) (w : World) (v : Value) (o t h g : Int) (e : Ending) (w' : World) : Prop := e = .returned v ∧ Cr w' b o t h g ∧ Chg b w w'

set_option maxHeartbeats 400000 in
theorem move_take (b : Nat) (o t h g n : Int) (w : World) (c : Cr w b o t h g) (h0 : 0 ≤ n) (h1 : n ≤ o) (h2 : 0 ≤ t) (h3 : o + t ≤ 65536) :
    Calls Try.prog 19 #[.pointer (some ⟨b, 0, none⟩), .int .i64 n, .int .i64 0, .int .i64 1] w (Ends b w (.int .i64 0) (o - n) (t + n) h g) := by
  obtain ⟨c0, c1, c2, c3⟩ := c.cells
  obtain ⟨f0, f1, f2, f3⟩ := c.free
  go_enter Try.func19, Try.ntmps19
  go_wp2
  go_region
  all_goals go_wp2
  all_goals go_region
  all_goals go_wp2
  all_goals go_ret
  all_goals exact ⟨rfl, by repeat first | exact c | apply Cr.drew | apply Cr.set0 | apply Cr.set1, by repeat first | exact Chg.refl _ _ | apply Chg.drew | apply Chg.setCell⟩
set_option maxHeartbeats 400000 in
theorem move_use (b : Nat) (o t h g n : Int) (w : World) (c : Cr w b o t h g) (h0 : 0 ≤ n) (h1 : n ≤ t) (h2 : 0 ≤ h) (h3 : t + h ≤ 65536) :
    Calls Try.prog 19 #[.pointer (some ⟨b, 0, none⟩), .int .i64 n, .int .i64 1, .int .i64 2] w (Ends b w (.int .i64 0) o (t - n) (h + n) g) := by
  obtain ⟨c0, c1, c2, c3⟩ := c.cells
  obtain ⟨f0, f1, f2, f3⟩ := c.free
  go_enter Try.func19, Try.ntmps19
  go_wp2
  go_region
  all_goals go_wp2
  all_goals go_region
  all_goals go_wp2
  all_goals go_ret
  all_goals exact ⟨rfl, by repeat first | exact c | apply Cr.drew | apply Cr.set1 | apply Cr.set2, by repeat first | exact Chg.refl _ _ | apply Chg.drew | apply Chg.setCell⟩
set_option maxHeartbeats 400000 in
theorem move_back (b : Nat) (o t h g n : Int) (w : World) (c : Cr w b o t h g) (h0 : 0 ≤ n) (h1 : n ≤ t) (h2 : 0 ≤ o) (h3 : o + t ≤ 65536) :
    Calls Try.prog 19 #[.pointer (some ⟨b, 0, none⟩), .int .i64 n, .int .i64 1, .int .i64 0] w (Ends b w (.int .i64 0) (o + n) (t - n) h g) := by
  obtain ⟨c0, c1, c2, c3⟩ := c.cells
  obtain ⟨f0, f1, f2, f3⟩ := c.free
  go_enter Try.func19, Try.ntmps19
  go_wp2
  go_region
  all_goals go_wp2
  all_goals go_region
  all_goals go_wp2
  all_goals go_ret
  all_goals exact ⟨rfl, by repeat first | exact c | apply Cr.drew | apply Cr.set1 | apply Cr.set0, by repeat first | exact Chg.refl _ _ | apply Chg.drew | apply Chg.setCell⟩
set_option maxHeartbeats 400000 in
theorem move_give (b : Nat) (o t h g n : Int) (w : World) (c : Cr w b o t h g) (h0 : 0 ≤ n) (h1 : n ≤ h) (h2 : 0 ≤ o) (h3 : o + h ≤ 65536) :
    Calls Try.prog 19 #[.pointer (some ⟨b, 0, none⟩), .int .i64 n, .int .i64 2, .int .i64 0] w (Ends b w (.int .i64 0) (o + n) t (h - n) g) := by
  obtain ⟨c0, c1, c2, c3⟩ := c.cells
  obtain ⟨f0, f1, f2, f3⟩ := c.free
  go_enter Try.func19, Try.ntmps19
  go_wp2
  go_region
  all_goals go_wp2
  all_goals go_region
  all_goals go_wp2
  all_goals go_ret
  all_goals exact ⟨rfl, by repeat first | exact c | apply Cr.drew | apply Cr.set2 | apply Cr.set0, by repeat first | exact Chg.refl _ _ | apply Chg.drew | apply Chg.setCell⟩
theorem Ends.stay {w : World} {b : Nat} {o t h g : Int} (c : Cr w b o t h g) (v : Value) : Ends b w v o t h g (.returned v) w := ⟨rfl, c, Chg.refl _ _⟩
set_option maxHeartbeats 400000 in
theorem move_neg (b : Nat) (o t h g n k m : Int) (w : World) (c : Cr w b o t h g) (h0 : n < 0) :
    Calls Try.prog 19 #[.pointer (some ⟨b, 0, none⟩), .int .i64 n, .int .i64 k, .int .i64 m] w (Ends b w (.int .i64 1) o t h g) := by
  go_enter Try.func19, Try.ntmps19
  go_wp2
  go_ret
  exact Ends.stay c _
set_option maxHeartbeats 400000 in
theorem move_big0 (b : Nat) (o t h g n m : Int) (w : World) (c : Cr w b o t h g) (h0 : 0 ≤ n) (h1 : o < n) :
    Calls Try.prog 19 #[.pointer (some ⟨b, 0, none⟩), .int .i64 n, .int .i64 0, .int .i64 m] w (Ends b w (.int .i64 7) o t h g) := by
  obtain ⟨c0, c1, c2, c3⟩ := c.cells
  go_enter Try.func19, Try.ntmps19
  go_wp2
  go_ret
  exact Ends.stay c _
set_option maxHeartbeats 400000 in
theorem move_big1 (b : Nat) (o t h g n m : Int) (w : World) (c : Cr w b o t h g) (h0 : 0 ≤ n) (h1 : t < n) :
    Calls Try.prog 19 #[.pointer (some ⟨b, 0, none⟩), .int .i64 n, .int .i64 1, .int .i64 m] w (Ends b w (.int .i64 7) o t h g) := by
  obtain ⟨c0, c1, c2, c3⟩ := c.cells
  go_enter Try.func19, Try.ntmps19
  go_wp2
  go_ret
  exact Ends.stay c _
set_option maxHeartbeats 400000 in
theorem move_big2 (b : Nat) (o t h g n m : Int) (w : World) (c : Cr w b o t h g) (h0 : 0 ≤ n) (h1 : h < n) :
    Calls Try.prog 19 #[.pointer (some ⟨b, 0, none⟩), .int .i64 n, .int .i64 2, .int .i64 m] w (Ends b w (.int .i64 7) o t h g) := by
  obtain ⟨c0, c1, c2, c3⟩ := c.cells
  go_enter Try.func19, Try.ntmps19
  go_wp2
  go_ret
  exact Ends.stay c _
end Go.Proofs.Ytaffepcpdmhjlaa
