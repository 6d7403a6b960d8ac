/-
  The contracts of Write and of Spans.
-/
import Derived.Test.YtmgkomobamjneaaC
import Derived.IntWalk
namespace Go.Proofs.Ytmgkomobamjneaa
open Go.RowKit

/-- How many of m bytes are held. -/
def room (N k m : Nat) : Nat := min m (N - k)

theorem map_splice (L : List UInt8) (off : Nat) (cs : List UInt8) : splice (L.map byteVal) off (cs.map byteVal) = (splice L off cs).map byteVal := by
  simp [splice]
theorem Bytes.src {ok : Nat → Prop} {w w' : World} {o : Option Addr} {m : List UInt8} {cap : Nat} (h : Bytes ok w (.slice o m.length cap) m) (g : Nat) (hok : ∀ q, ok q → q ≠ g) (hf : Frm (fun q => q ≠ g) w w') (k f : Nat) (hkf : k + f ≤ m.length) (hf0 : 0 < f) :
    ∃ bb off, o = some ⟨bb, off, none⟩ ∧ ∀ j v, (((m.drop k).take f).map byteVal)[j]? = some v → w'.cell? ((⟨bb, off + k, none⟩ : Addr).add j) = some v := by
  obtain ⟨o', cap', e, _, _, h4⟩ := h.form
  cases e
  obtain ⟨b, off, rfl, hb, hlt, hc⟩ := h4 (by intro e; rw [e] at hkf; simp at hkf; omega)
  refine ⟨b, off, rfl, fun j v hj => ?_⟩
  have hjl : j < f := by
    have := (List.getElem?_eq_some_iff.1 hj).1
    simp at this
    omega
  rw [WideShapes.add_plain, hf.cell (p := ⟨b, off + k + j, none⟩) hlt (hok _ hb), show off + k + j = off + (k + j) by omega, hc (k + j) (by omega), ← hj]
  simp [List.getD, List.getElem?_drop, hjl, show k + j < m.length by omega]

theorem take_len (m : List UInt8) (k f : Nat) (h : k + f ≤ m.length) : (((m.drop k).take f).map byteVal).length = f := by
  rw [List.length_map, List.length_take, List.length_drop]
  omega
theorem min_r {a b : Nat} (h : b ≤ a) : b = Nat.min a b := (Nat.min_eq_right h).symm

theorem Rng.wrote {w4 : World} {b g N h : Nat} {l m' C' : List UInt8} (hrow : w4.heap[b]? = some (.cells #[.slice (some ⟨g, 0, none⟩) N N, .int .i64 h, .int .i64 l.length] 57 (0, 0))) (hne : b ≠ g) (hN : N ≤ 1000)
    (hC : Lies C' N h (l ++ m')) (hcells : w4.heap[g]? = some (.cells (C'.map byteVal).toArray 5 (0, 0))) (X : Int) (hX : X = (l.length : Int) + (m'.length : Int)) : Rng (w4.setCell ⟨b, 2, none⟩ (.int .i64 X)) b g N h (l ++ m') := by
  have F : Frm (fun q => q ≠ b) w4 (w4.setCell ⟨b, 2, none⟩ (.int .i64 X)) := (Frm.refl _ _).setCell _ _ _ (fun _ h => h rfl)
  refine ⟨?_, hne, hN, C', hC, frm_block F hcells (fun e => hne e.symm)⟩
  rw [row_setCell' (i := 2) (v := .int .i64 X) hrow, hX, List.length_append, Int.natCast_add]
  rfl

set_option maxRecDepth 100000 in
set_option maxHeartbeats 2000000 in
theorem write_any {ok : Nat → Prop} (b g N h : Nat) (l : List UInt8) (v : Value) (m : List UInt8) (w : World) (hr : Rng w b g N h l) (hb : Bytes ok w v m) (hok : ∀ q, ok q → q ≠ g) (hm : m.length ≤ 140737488355328) :
    Calls Try.prog 10 #[.pointer (some ⟨b, 0, none⟩), v] w fun e w' => e = .returned (.int .i64 (room N l.length m.length : Nat)) ∧ Rng w' b g N h (l ++ m.take (room N l.length m.length)) ∧ Frm (fun q => q ≠ b ∧ q ≠ g) w w' := by
  obtain ⟨o, cap, rfl, hcl, hcm, _⟩ := hb.form
  unfold maxLen at hcm
  obtain ⟨hh, hl, hN, hbs, hgs⟩ := hr.bd
  obtain ⟨F, hF⟩ : ∃ F, l.length + F = N := ⟨N - l.length, by omega⟩
  have hfr := free_any b g N h l w hr
  have hK : room N l.length m.length ≤ m.length ∧ room N l.length m.length ≤ F ∧ ((m.length ≤ F ∧ room N l.length m.length = m.length) ∨ (F < m.length ∧ room N l.length m.length = F)) := by unfold room; omega
  have hKd : room N l.length m.length = min m.length (N - l.length) := rfl
  rw [show (N : Int) - l.length = F by omega] at hfr
  generalize room N l.length m.length = K at *
  obtain ⟨hK1, hK2, hK3⟩ := hK
  have hrw := fun n => hr.drewN n
  have hlt2 : h + l.length < 2 * N := by omega
  obtain ⟨C, hC, hrow⟩ := hr.arr
  have hpart := fun (w : World) (h1 : Rng w b g N h l) (ni : Int) (e : ni = K) => parts_any b g N h l ((h : Int) + (l.length : Int)) ni (h + l.length) K w h1 (by simp) e hlt2 (by omega)
  have hW := hC.write m K (fst N (ix N (h + l.length)) K) hKd rfl
  have hpl := ix_lt hlt2
  have hfst : fst N (ix N (h + l.length)) K ≤ K ∧ ix N (h + l.length) + fst N (ix N (h + l.length)) K ≤ N ∧ K - fst N (ix N (h + l.length)) K ≤ N := by unfold fst; omega
  have hCl := hC.len
  generalize ix N (h + l.length) = p at *
  generalize fst N p K = f at *
  have HW := Lib.hid hW
  have HC := Lib.hid hC
  have HROW := Lib.hid hrow
  have HP := Lib.hid hpart
  have HR := Lib.hid hr
  have HB := Lib.hid hb
  have HKD := Lib.hid hKd
  have HCL := Lib.hid hCl
  clear hW hC hrow hpart hr hb hKd hCl
  go_enter Try.func10, Try.ntmps10
  go_wp2_with fail
  refine hfr.mono ?_
  rintro e w1 ⟨rfl, n1, rfl⟩
  have HR1 := HR.out.drewN n1
  have F1 : Frm (fun _ => True) w (w.drewN n1) := frm_drewN (Frm.refl _ _) n1
  have hb1 := HB.out.kept F1 (fun _ _ _ => trivial)
  have hrow1 := frm_block F1 HROW.out trivial
  generalize w.drewN n1 = w1 at *
  have HB1 := Lib.hid hb1
  have HROW1 := Lib.hid hrow1
  clear hb1 hrow1
  obtain ⟨c0, c1, c2, f0, f1, f2⟩ := row3 HR1.row
  have HRH := Lib.hid HR1
  clear HR1
  have hsz5 : (Try.prog.info? 5).map (·.size) = some 1 := by kernel_rfl
  have hwr : IntKind.i64.wrap ((h : Int) + l.length) = (h : Int) + l.length := IntWalk.i64_in _ (by omega)
  rcases hK3 with ⟨hk, hk2⟩ | ⟨hk, hk2⟩
  · obtain rfl : K = m.length := hk2
    go_wp2_with fail
    go_quiet ((go_at_call 25; exact Calls.quiet_of (HP.out _ (HRH.out.drewN _) _ (by omega))))
    have F2 : Frm (fun _ => True) w1 (w1.drewN nq) := frm_drewN (Frm.refl _ _) nq
    have hb2 := HB1.out.kept F2 (fun _ _ _ => trivial)
    have hrow2 := frm_block F2 HROW1.out trivial
    have HR2 := Lib.hid (HRH.out.kept F2 trivial trivial)
    generalize w1.drewN nq = w2 at *
    have HB2 := Lib.hid hb2
    have HROW2 := Lib.hid hrow2
    clear hb2 hrow2 c0 c1 c2 f0 f1 f2 hwr
    have hl1 := take_len m 0 f (by omega)
    have hl2 := take_len m f (m.length - f) (by omega)
    have hs1 := fun (w' : World) (hf : Frm (fun q => q ≠ g) w2 w') (h0 : 0 < f) => HB2.out.src g hok hf 0 f (by omega) h0
    have hs2 := fun (w' : World) (hf : Frm (fun q => q ≠ g) w2 w') (h0 : 0 < m.length - f) => HB2.out.src g hok hf f (m.length - f) (by omega) h0
    have hCm : (C.map byteVal).length = N := by rw [List.length_map]; exact HCL.out
    rw [List.drop_zero] at hl1 hs1
    generalize m.take f = m1 at *
    generalize (m.drop f).take (m.length - f) = m2 at *
    have HL1 := Lib.hid hl1
    have HL2 := Lib.hid hl2
    have HS1 := Lib.hid hs1
    have HS2 := Lib.hid hs2
    have HCm := Lib.hid hCm
    clear hl1 hl2 hs1 hs2 hCm
    go_wp2_with (with_reducible refine wpList_copy_frm rfl (.tmp 30) (.tmp 31) 22 22 rfl 5 Try.underlying22 hsz5 _ _ _ _ _ _ rfl rfl g p (C.map byteVal) 5 HROW2.out (m1.map byteVal) ?c1 ?c2 ?c3 ?c4 f HL1.out ?_)
    case c1 => rw [HL1.out]; exact min_r (by omega)
    case c2 =>
      rw [HL1.out]
      intro h0
      obtain ⟨bb, off, e1, e2⟩ := HS1.out w2 (Frm.refl _ _) h0
      exact ⟨by rw [pof_pos (by omega)], _, e1, e2⟩
    case c3 => rw [HL1.out, HCm.out]; omega
    case c4 => exact byteVal_cell _
    intro w3 HG3 F3
    go_wp2_with (with_reducible refine wpList_slice_lh rfl (.tmp 29) (.tmp 32) (.tmp 33) rfl _ _ _ rfl f m.length _ _ rfl rfl ?d1 ?d2 ?d3 ?d4 ?_)
    case d1 => rfl
    case d2 => rfl
    case d3 => omega
    case d4 => omega
    intro o2 ho2
    have HO2 := Lib.hid ho2
    clear ho2
    refine wpList_copy_frm rfl (.tmp 28) (.tmp 34) 22 22 rfl 5 Try.underlying22 hsz5 _ _ _ _ _ _ rfl rfl g 0 (splice (C.map byteVal) p (m1.map byteVal)) 5 HG3.out (m2.map byteVal) ?c6 ?c7 ?c8 ?c9 (m.length - f) HL2.out ?_
    case c6 => rw [HL2.out]; exact min_r (by omega)
    case c7 =>
      rw [HL2.out]
      intro h0
      obtain ⟨bb, off, e1, e2⟩ := HS2.out w3 F3 h0
      exact ⟨rfl, _, by rw [HO2.out (by omega), e1, Option.map_some, WideShapes.add_plain], e2⟩
    case c8 => rw [HL2.out, length_splice _ _ _ (by rw [HL1.out, HCm.out]; omega), HCm.out]; omega
    case c9 => exact byteVal_cell _
    intro w4 HG4 F4
    have F24 : Frm (fun q => q ≠ g) w2 w4 := F3.trans F4
    have hrow4 := frm_block F24 HR2.out.row HR2.out.ne
    obtain ⟨c0, c1, c2, f0, f1, f2⟩ := row3 hrow4
    have hcells : w4.heap[g]? = some (.cells ((splice (splice C p m1) 0 m2).map byteVal).toArray 5 (0, 0)) := by
      rw [← map_splice, ← map_splice]
      exact HG4.out
    have HROW4 := Lib.hid hrow4
    have HCELLS := Lib.hid hcells
    have HNE := Lib.hid HR2.out.ne
    clear hrow4 hcells
    go_wp2_with fail
    go_ret
    have FW : Frm (fun q => q ≠ b ∧ q ≠ g) w (w4.setCell ⟨b, 2, none⟩ (.int .i64 ((l.length : Int) + (m.length : Int)))) :=
      (((F1.mono (fun _ _ _ => trivial)).trans (F2.mono (fun _ _ _ => trivial))).trans (F24.mono (fun _ _ h => h.2))).setCell _ _ _ (fun _ h => h.1 rfl)
    exact ⟨rfl, Rng.wrote HROW4.out HNE.out hN HW.out HCELLS.out _ (by rw [List.length_take]; omega), FW⟩
  · obtain rfl : K = F := hk2
    go_wp2_with fail
    go_quiet ((go_at_call 25; exact Calls.quiet_of (HP.out _ (HRH.out.drewN _) _ (by omega))))
    have F2 : Frm (fun _ => True) w1 (w1.drewN nq) := frm_drewN (Frm.refl _ _) nq
    have hb2 := HB1.out.kept F2 (fun _ _ _ => trivial)
    have hrow2 := frm_block F2 HROW1.out trivial
    have HR2 := Lib.hid (HRH.out.kept F2 trivial trivial)
    generalize w1.drewN nq = w2 at *
    have HB2 := Lib.hid hb2
    have HROW2 := Lib.hid hrow2
    clear hb2 hrow2 c0 c1 c2 f0 f1 f2 hwr
    have hl1 := take_len m 0 f (by omega)
    have hl2 := take_len m f (K - f) (by omega)
    have hs1 := fun (w' : World) (hf : Frm (fun q => q ≠ g) w2 w') (h0 : 0 < f) => HB2.out.src g hok hf 0 f (by omega) h0
    have hs2 := fun (w' : World) (hf : Frm (fun q => q ≠ g) w2 w') (h0 : 0 < K - f) => HB2.out.src g hok hf f (K - f) (by omega) h0
    have hCm : (C.map byteVal).length = N := by rw [List.length_map]; exact HCL.out
    rw [List.drop_zero] at hl1 hs1
    generalize m.take f = m1 at *
    generalize (m.drop f).take (K - f) = m2 at *
    have HL1 := Lib.hid hl1
    have HL2 := Lib.hid hl2
    have HS1 := Lib.hid hs1
    have HS2 := Lib.hid hs2
    have HCm := Lib.hid hCm
    clear hl1 hl2 hs1 hs2 hCm
    go_wp2_with (with_reducible refine wpList_copy_frm rfl (.tmp 30) (.tmp 31) 22 22 rfl 5 Try.underlying22 hsz5 _ _ _ _ _ _ rfl rfl g p (C.map byteVal) 5 HROW2.out (m1.map byteVal) ?kc1 ?kc2 ?kc3 ?kc4 f HL1.out ?_)
    case kc1 => rw [HL1.out]; exact min_r (by omega)
    case kc2 =>
      rw [HL1.out]
      intro h0
      obtain ⟨bb, off, e1, e2⟩ := HS1.out w2 (Frm.refl _ _) h0
      exact ⟨by rw [pof_pos (by omega)], _, e1, e2⟩
    case kc3 => rw [HL1.out, HCm.out]; omega
    case kc4 => exact byteVal_cell _
    intro w3 HG3 F3
    go_wp2_with (with_reducible refine wpList_slice_lh rfl (.tmp 29) (.tmp 32) (.tmp 33) rfl _ _ _ rfl f K _ _ rfl rfl ?kd1 ?kd2 ?kd3 ?kd4 ?_)
    case kd1 => rfl
    case kd2 => rfl
    case kd3 => omega
    case kd4 => omega
    intro o2 ho2
    have HO2 := Lib.hid ho2
    clear ho2
    refine wpList_copy_frm rfl (.tmp 28) (.tmp 34) 22 22 rfl 5 Try.underlying22 hsz5 _ _ _ _ _ _ rfl rfl g 0 (splice (C.map byteVal) p (m1.map byteVal)) 5 HG3.out (m2.map byteVal) ?kc6 ?kc7 ?kc8 ?kc9 (K - f) HL2.out ?_
    case kc6 => rw [HL2.out]; exact min_r (by omega)
    case kc7 =>
      rw [HL2.out]
      intro h0
      obtain ⟨bb, off, e1, e2⟩ := HS2.out w3 F3 h0
      exact ⟨rfl, _, by rw [HO2.out (by omega), e1, Option.map_some, WideShapes.add_plain], e2⟩
    case kc8 => rw [HL2.out, length_splice _ _ _ (by rw [HL1.out, HCm.out]; omega), HCm.out]; omega
    case kc9 => exact byteVal_cell _
    intro w4 HG4 F4
    have F24 : Frm (fun q => q ≠ g) w2 w4 := F3.trans F4
    have hrow4 := frm_block F24 HR2.out.row HR2.out.ne
    obtain ⟨c0, c1, c2, f0, f1, f2⟩ := row3 hrow4
    have hcells : w4.heap[g]? = some (.cells ((splice (splice C p m1) 0 m2).map byteVal).toArray 5 (0, 0)) := by
      rw [← map_splice, ← map_splice]
      exact HG4.out
    have HROW4 := Lib.hid hrow4
    have HCELLS := Lib.hid hcells
    have HNE := Lib.hid HR2.out.ne
    clear hrow4 hcells
    go_wp2_with fail
    go_ret
    have FW : Frm (fun q => q ≠ b ∧ q ≠ g) w (w4.setCell ⟨b, 2, none⟩ (.int .i64 ((l.length : Int) + (K : Int)))) :=
      (((F1.mono (fun _ _ _ => trivial)).trans (F2.mono (fun _ _ _ => trivial))).trans (F24.mono (fun _ _ h => h.2))).setCell _ _ _ (fun _ h => h.1 rfl)
    exact ⟨rfl, Rng.wrote HROW4.out HNE.out hN HW.out HCELLS.out _ (by rw [List.length_take]; omega), FW⟩
end Go.Proofs.Ytmgkomobamjneaa
