/-
  The iterator over what a ring holds: the contract of All's function.
-/
import Derived.Test.YtmgkomobamjneaaE
import Derived.RangeFuncNested
import Derived.RangeFuncBound
import Derived.RangeFuncCalls
import Derived.RangeFuncLeaves
import Derived.Shelf.Abstract
import Derived.Shelf.RegionOpen
import Derived.OwnWalkIn
import Derived.TacticsInMore
import Derived.LoopNIn
import Derived.LoopIn
import Derived.Laws.Rows
import Derived.Sort.QuietIn
import Derived.Sort.QuietTacIn
namespace Go.Proofs.Ytmgkomobamjneaa
open Go.RowKit Go.Shelf

/-- What is told one by one: places and bytes. -/
def tells (N h : Nat) (l : List UInt8) : List (Nat × UInt8) := (List.range l.length).map fun i => (ix N (h + i), l.getD i 0)
theorem tells_len (N h : Nat) (l : List UInt8) : (tells N h l).length = l.length := by simp [tells]
theorem tells_take (N h : Nat) (l : List UInt8) (k : Nat) (hk : k < l.length) : (tells N h l).take (k + 1) = (tells N h l).take k ++ [(ix N (h + k), l.getD k 0)] := by
  rw [List.take_succ_eq_append_getElem (by rw [tells_len]; exact hk)]
  simp [tells]
theorem tells_snd (N h : Nat) (l : List UInt8) : (tells N h l).map Prod.snd = l := by
  apply List.ext_getElem
  · simp [tells]
  · intro i h1 h2
    simp [tells, List.getD, List.getElem?_eq_getElem h2]
theorem tells_take_snd (N h : Nat) (l : List UInt8) (k : Nat) : ((tells N h l).take k).map Prod.snd = l.take k := by rw [List.map_take, tells_snd]

/-- What a round must keep: the ring, and the box of its pointer. -/
def okR (b g B q : Nat) : Prop := q = b ∨ q = g ∨ q = B
def encT (x : Nat × UInt8) : Array Value := #[.int .i64 (x.1 : Nat), .int .u8 (x.2.toNat : Int)]

theorem index_two (V0 V1 : Value) (k : Nat) (h : k < 2) (w : World) : (Instr.index 60 (.agg #[V0, V1]) (.int .i64 k)).run Try.prog w = .ok (if k = 0 then V0 else V1) w := by
  rcases (show k = 0 ∨ k = 1 by omega) with rfl | rfl
  · kernel_rfl
  · kernel_rfl

theorem Rng.byte1 {w : World} {b g N h : Nat} {l : List UInt8} (hr : Rng w b g N h l) (j : Nat) (hj : j < fst N h l.length) : w.cell? ⟨g, pof h l.length + j, none⟩ = some (byteVal (l.getD j 0)) := by
  obtain ⟨C, hC, hrow⟩ := hr.arr
  have hb := hr.bd
  rw [pof_pos (by have := fst_le N h l.length; omega), row_byte hrow _ (by rw [hC.len]; unfold fst at hj; omega), hC.one j hj]
  simp [List.getD, List.getElem?_take, hj]
theorem Rng.byte2 {w : World} {b g N h : Nat} {l : List UInt8} (hr : Rng w b g N h l) (j : Nat) (hj : j < l.length - fst N h l.length) : w.cell? ⟨g, 0 + j, none⟩ = some (byteVal (l.getD (fst N h l.length + j) 0)) := by
  obtain ⟨C, hC, hrow⟩ := hr.arr
  have hb := hr.bd
  rw [Nat.zero_add, row_byte hrow _ (by rw [hC.len]; omega), hC.two j hj]
  simp [List.getD, List.getElem?_drop]

set_option maxRecDepth 100000 in
set_option maxHeartbeats 2000000 in
theorem all_stops (n : Nat) (hn : 1 ≤ n) (b g B N h : Nat) (l : List UInt8) (w : World) (hr : Rng w b g N h l) (hbox : w.heap[B]? = some (.cells #[.pointer (some ⟨b, 0, none⟩)] 24 (0, 0))) :
    SeqStopsK Fence.wide n Try.prog 26 #[.pointer (some ⟨B, 0, none⟩)] encT (Frm (okR b g B)) (fun xs => xs = tells N h l) (fun pre => pre <+: tells N h l) l.length w := fun y J Jx W hW hJ hJx hY h0 => by
  have hF0 : Frm (fun q => q < w.heap.size) w W := Frm.of_below hW (fun q _ hq => hq)
  have hbd := hr.bd
  have hR0 : Rng W b g N h l := hr.kept hF0 hbd.2.2.2.1 hbd.2.2.2.2
  have hB0 := frm_block hF0 hbox (lt_of_block hbox)
  have hcell0 := cell_of_one hB0
  obtain ⟨c0, c1, c2, _⟩ := row3 hR0.row
  have hdr : ∀ n, J [] (W.drewN n) := fun n => hJ [] W (W.drewN n) none h0 ⟨rfl, rfl, rfl, Nat.le_refl _, fun _ _ _ => rfl⟩ (fun r e => by cases e)
  have HY := Lib.hid hY
  have HR0 := Lib.hid hR0
  have HB0 := Lib.hid hB0
  have HDR := Lib.hid hdr
  clear hY hR0 hB0 hdr hr hbox hF0 h0
  refine callsIn_of_wp Try.func26 rfl trivial ?_ rfl
  simp only [Try.ntmps26, List.size_toArray, List.length_cons, List.length_nil, Nat.reduceAdd, Nat.reduceSub, Array.replicate_succ, Array.replicate_zero, List.push_toArray, List.append_toArray, List.nil_append, List.cons_append]
  gi_wp2
  refine wpIn_region_quiet_lit rfl (by kernel_rfl) (by kernel_rfl) ?_
  repeat
    (refine wpQuietIn_step (fun _ _ _ _ => trivial) (fun K hK => ?_)
     go_simp
     first
       | (refine hK _ ?_; clear hK K)
       | (apply Exists.intro
          refine ⟨fun _ => ?_, hK _ ?_⟩
          (gi_at_call 25; exact CallsIn.quiet_of (callsIn_wide.2 (held_any b g N h l _ _ _ (HR0.out.drewN _) rfl rfl)))
          clear hK K))
  refine wpQuietIn_nil ?_
  rintro _ ⟨nq, rfl⟩
  have HJ0 := HDR.out nq
  have F1 : Frm (okR b g B) W (W.drewN nq) := frm_drewN (Frm.refl _ _) nq
  have hR1 := HR0.out.kept F1 (.inl rfl) (.inr (.inl rfl))
  have hB1 := frm_block F1 HB0.out (.inr (.inr rfl))
  generalize W.drewN nq = W1 at *
  have hl := fst_le N h l.length
  have hT := tells_take N h l
  have hTl := tells_len N h l
  have HT := Lib.hid hT
  have HTl := Lib.hid hTl
  have HR1 := Lib.hid hR1
  have HB1 := Lib.hid hB1
  have hfl : l.length ≤ N ∧ h < N ∧ N ≤ 1000 := by omega
  clear hT hTl hR1 hB1 F1 c0 c1 c2 hcell0
  have hsel : ∀ (k : Nat), k < 2 → ∃ off c d, (∀ w, (Instr.index 60 (.agg #[.slice (some ⟨g, pof h l.length, none⟩) (fst N h l.length) (fst N h l.length), .slice (some ⟨g, 0, none⟩) (l.length - fst N h l.length) (l.length - fst N h l.length)]) (.int .i64 k)).run Try.prog w = .ok (.slice (some ⟨g, off, none⟩) c c) w) ∧
      d = (if k = 0 then 0 else fst N h l.length) ∧ d + c = (if k = 0 then fst N h l.length else l.length) ∧ c ≤ N ∧ ∀ W', Frm (okR b g B) W1 W' → ∀ j, j < c → W'.cell? ⟨g, off + j, none⟩ = some (.int .u8 ((l.getD (d + j) 0).toNat : Int)) := fun k hk => by
    rcases (show k = 0 ∨ k = 1 by omega) with rfl | rfl
    · refine ⟨pof h l.length, fst N h l.length, 0, fun w => index_two _ _ 0 hk w, rfl, by simp, by omega, fun W' hf j hj => ?_⟩
      rw [(HR1.out.kept hf (.inl rfl) (.inr (.inl rfl))).byte1 j hj, Nat.zero_add]
      rfl
    · refine ⟨0, l.length - fst N h l.length, fst N h l.length, fun w => index_two _ _ 1 hk w, rfl, by simp; omega, by omega, fun W' hf j hj => ?_⟩
      rw [(HR1.out.kept hf (.inl rfl) (.inr (.inl rfl))).byte2 j hj]
      rfl
  have hixm := fun (k : Nat) (hk : k < l.length) => (show ((h + k : Nat) : Int) % (N : Int) = ((ix N (h + k) : Nat) : Int) by rw [← ix_mod (show h + k < 2 * N by omega)]; rfl)
  have HSel := Lib.hid hsel
  have HIX := Lib.hid hixm
  clear hsel hixm
  generalize hTT : tells N h l = T at *
  generalize hff : fst N h l.length = f at *
  have HTT := Lib.hid hTT
  clear hTT hff
  gi_wp2
  gi_loopw [3, 30] (fun p i wr => ∃ k d : Nat, i = .int .i64 k ∧ k ≤ 2 ∧ p = .int .i64 (h + d : Nat) ∧ d = (if k = 0 then 0 else if k = 1 then f else l.length) ∧ J (T.take d) wr ∧ Frm (okR b g B) W1 wr) (fun _ i _ => 2 - (intOf i).toNat)
  case atStart => exact ⟨0, 0, rfl, by omega, rfl, rfl, by rw [List.take_zero]; exact HJ0, Frm.refl _ _⟩
  case round =>
    obtain ⟨k, d, rfl, hk, rfl, hd, hJk, hfk⟩ := hrel
    have HD := Lib.hid hd
    clear hd
    by_cases hlt : k < 2
    · obtain ⟨off, c, d', hi, hd', hdc, hcN, hc⟩ := HSel.out k hlt
      obtain rfl : d' = d := by
        have := HD.out
        rw [hd', this]
        by_cases h0 : k = 0
        · rw [if_pos h0, if_pos h0]
        · rw [if_neg h0, if_neg h0, if_pos (by omega)]
      have HDC := Lib.hid hdc
      have hdl : d' + c ≤ l.length := by
        rw [hdc]
        by_cases h0 : k = 0
        · rw [if_pos h0]; exact hl
        · rw [if_neg h0]; exact Nat.le_refl _
      have HCC := Lib.hid hc
      clear hd' hdc hc
      have hdk : decide ((k : Int) < 2) = true := by simp; omega
      obtain ⟨wo, rfl⟩ : ∃ wo : World, wo = wr := ⟨_, rfl⟩
      gi_wp2
      gi_loopw [3, 35] (fun p i wr' => ∃ j : Nat, i = .int .i64 j ∧ j ≤ c ∧ p = .int .i64 (h + (d' + j) : Nat) ∧ J (T.take (d' + j)) wr' ∧ Frm (okR b g B) W1 wr') (fun _ i _ => c - (intOf i).toNat)
      case atStart => exact ⟨0, rfl, by omega, rfl, hJk, hfk⟩
      case round =>
        obtain ⟨j, rfl, hj, rfl, hJj, hfj⟩ := hrel
        by_cases hlt2 : j < c
        · have hx := HT.out (d' + j) (by omega)
          have hm := HIX.out (d' + j) (by omega)
          rw [Int.natCast_add, Int.natCast_add] at hm
          have hcell := HCC.out wr hfj j hlt2
          have hR := HR1.out.kept hfj (.inl rfl) (.inr (.inl rfl))
          obtain ⟨r0, _, _, _⟩ := row3 hR.row
          have hbx := cell_of_one (frm_block hfj HB1.out (.inr (.inr rfl)))
          have hlen : (T.take (d' + j)).length < l.length := by rw [List.length_take, HTl.out]; omega
          obtain ⟨fn, tmps, assign, body, hy, hRR⟩ := HY.out (T.take (d' + j)) (ix N (h + (d' + j)), l.getD (d' + j) 0) wr hJj hlen
          unfold encT at hy
          dsimp only at hy
          have HX := Lib.hid hx
          generalize ix N (h + (d' + j)) = q at *
          generalize l.getD (d' + j) 0 = cc at *
          clear hx hR hlen
          gi_wp2
          refine hRR.mono ?_
          rintro e W3 (⟨rfl, hJ3, hF3⟩ | ⟨rfl, hJx3⟩)
          · gi_wp2
            go_roundw
            case rel => exact ⟨j + 1, by go_num, by omega, by go_num, by rw [← Nat.add_assoc, HX.out]; exact hJ3, hfj.trans hF3⟩
            case measure => simp [intOf]; omega
          · gi_wp2
            refine bodyPost_ret (results_none rfl _ _ _) rfl ?_
            exact ⟨⟨_, rfl⟩, .inr ⟨T.take (d' + j + 1), by rw [HTT.out]; exact List.take_prefix _ _, by rw [HX.out]; exact hJx3⟩⟩
        · obtain rfl : j = c := by omega
          gi_wp2
          go_roundw
          case rel =>
            refine ⟨k + 1, d' + j, by go_num, by omega, rfl, ?_, hJj, hfj⟩
            rw [HDC.out]
            by_cases h0 : k = 0
            · rw [if_pos h0, if_neg (by omega), if_pos (by omega)]
            · rw [if_neg h0, if_neg (by omega), if_neg (by omega)]
          case measure => simp [intOf]; omega
    · have hdd := HD.out
      rw [if_neg (by omega), if_neg (by omega)] at hdd
      have hT : T.take d = T := by rw [hdd, ← HTl.out, List.take_length]
      have HTd := Lib.hid hT
      clear hT hdd
      gi_wp2
      go_end0
      exact ⟨⟨_, rfl⟩, .inl ⟨T, HTT.out.symm, by rw [HTd.out] at hJk; exact hJk⟩⟩
end Go.Proofs.Ytmgkomobamjneaa
