/-
  The contract of Spans; what the parts of a ring read as.
-/
import Derived.Test.YtmgkomobamjneaaD
namespace Go.Proofs.Ytmgkomobamjneaa
open Go.RowKit

theorem ix_self {N h : Nat} (hh : h < N) : ix N h = h := by unfold ix; rw [if_pos hh]
theorem fst_le (N h k : Nat) : fst N h k ≤ k := by unfold fst; omega
theorem row_byte {w : World} {g : Nat} {C : List UInt8} (h : w.heap[g]? = some (.cells (C.map byteVal).toArray 5 (0, 0))) (j : Nat) (hj : j < C.length) : w.cell? ⟨g, j, none⟩ = some (byteVal (C.getD j 0)) := by
  simp [World.cell?, h, List.getD, hj]
theorem Rng.part1 {w : World} {b g N h : Nat} {l : List UInt8} (hr : Rng w b g N h l) :
    Bytes (fun q => q = g) w (.slice (some ⟨g, pof h l.length, none⟩) (fst N h l.length) (fst N h l.length)) (l.take (fst N h l.length)) := by
  obtain ⟨C, hC, hrow⟩ := hr.arr
  have hb := hr.bd
  have hlen : (l.take (fst N h l.length)).length = fst N h l.length := by rw [List.length_take]; have := fst_le N h l.length; omega
  refine .inr ⟨_, _, by rw [hlen], by omega, by unfold maxLen; have := fst_le N h l.length; omega, fun hl => ⟨rfl, rfl, lt_of_block hrow, fun i hi => ?_⟩⟩
  rw [hlen] at hi
  have hl0 : 0 < l.length := by have := fst_le N h l.length; omega
  show w.cell? ⟨g, pof h l.length + i, none⟩ = _
  rw [pof_pos hl0, row_byte hrow _ (by rw [hC.len]; unfold fst at hi; omega), hC.one i hi]
theorem Rng.part2 {w : World} {b g N h : Nat} {l : List UInt8} (hr : Rng w b g N h l) :
    Bytes (fun q => q = g) w (.slice (some ⟨g, 0, none⟩) (l.length - fst N h l.length) (l.length - fst N h l.length)) (l.drop (fst N h l.length)) := by
  obtain ⟨C, hC, hrow⟩ := hr.arr
  have hb := hr.bd
  have hlen : (l.drop (fst N h l.length)).length = l.length - fst N h l.length := List.length_drop
  refine .inr ⟨_, _, by rw [hlen], by omega, by unfold maxLen; omega, fun hl => ⟨rfl, rfl, lt_of_block hrow, fun i hi => ?_⟩⟩
  rw [hlen] at hi
  show w.cell? ⟨g, 0 + i, none⟩ = _
  rw [Nat.zero_add, row_byte hrow _ (by rw [hC.len]; omega), hC.two i hi]

theorem held_any (b g N h : Nat) (l : List UInt8) (hi ni : Int) (w : World) (hr : Rng w b g N h l) (e1 : hi = h) (e2 : ni = l.length) :
    Calls Try.prog 25 #[.pointer (some ⟨b, 0, none⟩), .int .i64 hi, .int .i64 ni] w fun e w' => e = .returned (.tuple #[.slice (some ⟨g, pof h l.length, none⟩) (fst N h l.length) (fst N h l.length),
      .slice (some ⟨g, 0, none⟩) (l.length - fst N h l.length) (l.length - fst N h l.length)]) ∧ ∃ n, w' = w.drewN n := by
  have hb := hr.bd
  have := parts_any b g N h l hi ni h l.length w hr e1 e2 (by omega) (by omega)
  rwa [ix_self hb.1] at this

set_option maxHeartbeats 1000000 in
theorem spans_any (b g N h : Nat) (l : List UInt8) (w : World) (hr : Rng w b g N h l) :
    Calls Try.prog 19 #[.pointer (some ⟨b, 0, none⟩)] w fun e w' => ∃ oa ca ob cb w1, e = .returned (.tuple #[.slice oa (fst N h l.length) ca, .slice ob (l.length - fst N h l.length) cb]) ∧
      w1.ownsRow w.heap.size 5 1 (.slice oa (fst N h l.length) ca) (fst N h l.length) ((l.take (fst N h l.length)).map byteVal) ∧
      w'.ownsRow w1.heap.size 5 1 (.slice ob (l.length - fst N h l.length) cb) (l.length - fst N h l.length) ((l.drop (fst N h l.length)).map byteVal) ∧ Below w.heap.size w w1 ∧ Below w1.heap.size w1 w' := by
  obtain ⟨c0, c1, c2, _⟩ := row3 hr.row
  obtain ⟨hh, hl, hN, _⟩ := hr.bd
  have hlen1 : (l.take (fst N h l.length)).length = fst N h l.length := by rw [List.length_take]; have := fst_le N h l.length; omega
  have hlen2 : (l.drop (fst N h l.length)).length = l.length - fst N h l.length := List.length_drop
  have hf := fst_le N h l.length
  have hP1 := hr.part1
  have hP2 := hr.part2
  have hp := fun (W : World) (h1 : Rng W b g N h l) => held_any b g N h l h l.length W h1 rfl rfl
  have hC1 := fun (V : Value) (W : World) (h1 : Bytes (fun q => q = g) W V (l.take (fst N h l.length))) => clone_any _ (l.take (fst N h l.length)) W h1 (by rw [hlen1]; omega)
  have hC2 := fun (V : Value) (W : World) (h1 : Bytes (fun q => q = g) W V (l.drop (fst N h l.length))) => clone_any _ (l.drop (fst N h l.length)) W h1 (by rw [hlen2]; omega)
  rw [hlen1] at hC1
  rw [hlen2] at hC2
  generalize l.take (fst N h l.length) = l1 at *
  generalize l.drop (fst N h l.length) = l2 at *
  generalize fst N h l.length = f at *
  have HP := Lib.hid hp
  have HP1 := Lib.hid hP1
  have HP2 := Lib.hid hP2
  have HR := Lib.hid hr
  have HC1 := Lib.hid hC1
  have HC2 := Lib.hid hC2
  clear hp hP1 hP2 hr hlen1 hlen2 hC1 hC2
  go_enter Try.func19, Try.ntmps19
  go_wp2_with fail
  go_quiet ((go_at_call 25; exact Calls.quiet_of (HP.out _ (HR.out.drewN _))))
  have F2 : Frm (fun _ => True) w (w.drewN nq) := frm_drewN (Frm.refl _ _) nq
  have hP1 := HP1.out.kept F2 (fun _ _ _ => trivial)
  have hP2 := HP2.out.kept F2 (fun _ _ _ => trivial)
  have hz : (w.drewN nq).heap.size = w.heap.size := rfl
  have hB2 : Below w.heap.size w (w.drewN nq) := below_drewN (Below.refl _ _) nq
  generalize w.drewN nq = w2 at *
  have HZ := Lib.hid hz
  have HQ2 := Lib.hid hP2
  clear hz hP2 c0 c1 c2
  go_wp2_with fail
  refine (HC1.out _ w2 hP1).mono ?_
  rintro e w3 ⟨o3, c3, rfl, hown3, hB3⟩
  have hP3 := HQ2.out.kept (Frm.of_below (ok := fun _ => True) hB3 (fun q hq _ => hq)) (fun _ _ _ => trivial)
  have HO3 := Lib.hid hown3
  clear hown3
  go_wp2_with fail
  refine (HC2.out _ w3 hP3).mono ?_
  rintro e w4 ⟨o4, c4, rfl, hown4, hB4⟩
  have HO4 := Lib.hid hown4
  clear hown4
  go_wp2_with fail
  go_ret2
  refine ⟨o3, c3, o4, c4, w3, rfl, ?_, HO4.out, hB2.trans (by rw [← HZ.out]; exact hB3), hB4⟩
  rw [← HZ.out]
  exact HO3.out
end Go.Proofs.Ytmgkomobamjneaa
