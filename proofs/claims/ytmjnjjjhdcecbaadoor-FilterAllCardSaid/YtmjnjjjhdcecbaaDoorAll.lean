/-
  FilterAll: the names are told in the document's order, up to where one stops: true for every stop; the two package-level tables are tied to the program's text; no other condition.
-/
import Derived.Test.YtmjnjjjhdcecbaaDoorG
namespace Go.Proofs.YtmjnjjjhdcecbaaDoor
open Go.RowKit Go.Shelf
attribute [local go_sem] Oper.semAt_some

theorem seq_not_nil (w : World) : (binOp .neq 28 (.func (.func 20) #[] #[]) .nilFunc).run Tryd.prog w = .ok (.bool true) w := by kernel_rfl

set_option maxRecDepth 100000 in
set_option maxHeartbeats 4000000 in
theorem all_any (stop : Int) (w : World) (hs0 : 0 ≤ stop) (hs1 : stop ≤ 255) (he : Ends w) (hT : Tab w) (h1 : 1 < w.heap.size) :
    Calls Tryd.prog 4 #[.int .u8 stop] w fun e w' => e = .returned (.bool true) ∧ Below w.heap.size w w' := by
  obtain ⟨st, rfl⟩ := Int.eq_ofNat_of_zero_le hs0
  have hst : st ≤ 255 := by omega
  refine (callsIn_wide (n := 4)).1 ?_
  refine callsIn_of_wp_marks Tryd.func4 rfl trivial ?_ rfl
  simp only [Tryd.ntmps4, List.size_toArray, List.length_cons, List.length_nil, Nat.reduceAdd, Nat.reduceSub, Array.replicate_succ, Array.replicate_zero, List.push_toArray, List.append_toArray, List.nil_append, List.cons_append]
  have hB0 : Below w.heap.size w ((w.alloc (.cells #[.int .u8 st] 5)).alloc (.cells #[.bool false] 4)) := ((Below.refl _ w).alloc (Nat.le_refl _) _).alloc (by simp) _
  have c0 := cell_alloc_l (.cells #[.bool false] 4) (cell_new_l w (.int .u8 st) 5).1
  have c1 := cell_new_l (w.alloc (.cells #[.int .u8 st] 5)) (.bool false) 4
  have hsz0 : ((w.alloc (.cells #[.int .u8 st] 5)).alloc (.cells #[.bool false] 4)).heap.size = w.heap.size + 2 := by simp
  simp only [World.size_alloc] at c1
  gi_wp2_with fail
  generalize hW0 : (w.alloc (.cells #[.int .u8 st] 5)).alloc (.cells #[.bool false] 4) = W0 at *
  clear hW0
  refine ⟨trivial, ?_⟩
  gi_at_call 7
  refine (callsIn_wide.2 (wakes_any W0 (he.kept hB0 h1) (hT.kept hB0 (by omega)) (by omega))).mono ?_
  rintro e W1 ⟨rfl, hb1⟩
  have hs1' := hb1.size
  gi_wp2_with fail
  refine ⟨trivial, ?_⟩
  gi_at_call 8
  refine (callsIn_wide.2 (rnames_any W1)).mono ?_
  rintro e W2 ⟨rfl, hH, hb2, hlt2⟩
  have hb02 : Below W0.heap.size W0 W2 := hb1.trans (hb2.mono hs1')
  have c0' : W2.cell? ⟨w.heap.size, 0, none⟩ = some (.int .u8 st) := (hb02.cell (p := ⟨w.heap.size, 0, none⟩) (by show w.heap.size < _; omega)).trans c0
  have c1' : W2.cell? ⟨w.heap.size + 1, 0, none⟩ = some (.bool false) := (hb02.cell (p := ⟨w.heap.size + 1, 0, none⟩) (by show w.heap.size + 1 < _; omega)).trans c1.1
  have f1' : W2.frozen? ⟨w.heap.size + 1, 0, none⟩ = false := (hb02.frozen (p := ⟨w.heap.size + 1, 0, none⟩) (by show w.heap.size + 1 < _; omega)).trans c1.2
  have hB2 : Below w.heap.size w W2 := hB0.trans (hb02.mono (by omega))
  have hM : w.heap.size + 1 < W1.heap.size := by omega
  generalize W1.heap.size = M at *
  clear c0 c1 hb1 hb2 hb02 hB0
  have hnn := seq_not_nil
  gi_wp2_with (refine ⟨trivial, ?_⟩; gi_at_call 11; refine (callsIn_wide.2 (names_any _)).mono ?_; rintro e w' ⟨rfl, rfl⟩)
  clear hnn
  have n0 := cell_new_l W2 (.slice (some ⟨M, 0, none⟩) 28 28) 23
  have n1 := cell_new_l (W2.alloc (.cells #[.slice (some ⟨M, 0, none⟩) 28 28] 23)) (.int .i64 0) 3
  simp only [World.size_alloc] at n1
  have n0' := cell_alloc_l (.cells #[.int .i64 0] 3) n0.1
  have hbA : Below W2.heap.size W2 ((W2.alloc (.cells #[.slice (some ⟨M, 0, none⟩) 28 28] 23)).alloc (.cells #[.int .i64 0] 3)) := ((Below.refl _ _).alloc (Nat.le_refl _) _).alloc (by simp) _
  have hsA : ((W2.alloc (.cells #[.slice (some ⟨M, 0, none⟩) 28 28] 23)).alloc (.cells #[.int .i64 0] 3)).heap.size = W2.heap.size + 2 := by simp
  have hs2 := hB2.size
  have hB3 := hB2.trans (hbA.mono hs2)
  have k0 := (hbA.cell (p := ⟨w.heap.size, 0, none⟩) (by show w.heap.size < _; omega)).trans c0'
  have k1 := (hbA.cell (p := ⟨w.heap.size + 1, 0, none⟩) (by show w.heap.size + 1 < _; omega)).trans c1'
  have kf := (hbA.frozen (p := ⟨w.heap.size + 1, 0, none⟩) (by show w.heap.size + 1 < _; omega)).trans f1'
  have kH : Has28 ((W2.alloc (.cells #[.slice (some ⟨M, 0, none⟩) 28 28] 23)).alloc (.cells #[.int .i64 0] 3)) M := fun j hj => (hbA.cell (p := ⟨M, j, none⟩) hlt2).trans (hH j hj)
  generalize hW3 : (W2.alloc (.cells #[.slice (some ⟨M, 0, none⟩) 28 28] 23)).alloc (.cells #[.int .i64 0] 3) = W3 at *
  clear hW3 n0 c0' c1' f1' hH hbA
  generalize W2.heap.size = N at *
  refine wpIn_rangeFunc_ownG rfl (by omega) (gf := 20) (lb := #[]) rfl trivial (enters_of Tryd.func20 (by kernel_rfl) rfl)
    (names_stops Fence.wide _ trivial rfl (by omega) w.heap.size _ (hT.kept hB3 (by omega)) (by omega)) belowK_t (belowK_b (by omega)) (Below.refl _ _) (fun _ => rfl)
    (fun (pre : List Name28) W => (pre.length ≤ st ∧ pre.map (·.1) = namesL.take pre.length ∧ W.cell? ⟨w.heap.size, 0, none⟩ = some (.int .u8 st) ∧ W.cell? ⟨w.heap.size + 1, 0, none⟩ = some (.bool false) ∧ W.frozen? ⟨w.heap.size + 1, 0, none⟩ = false ∧
      W.cell? ⟨N, 0, none⟩ = some (.slice (some ⟨M, 0, none⟩) 28 28) ∧ W.cell? ⟨N + 1, 0, none⟩ = some (.int .i64 (pre.length : Nat)) ∧ W.frozen? ⟨N + 1, 0, none⟩ = false ∧ Has28 W M) ∧ Below w.heap.size w W)
    (fun c (pre : List Name28) W => ((c = .exit 0 ∧ pre.length = st + 1 ∧ W.cell? ⟨w.heap.size, 0, none⟩ = some (.int .u8 st) ∧ W.cell? ⟨w.heap.size + 1, 0, none⟩ = some (.bool false) ∧ W.frozen? ⟨w.heap.size + 1, 0, none⟩ = false ∧
      W.cell? ⟨N, 0, none⟩ = some (.slice (some ⟨M, 0, none⟩) 28 28) ∧ W.cell? ⟨N + 1, 0, none⟩ = some (.int .i64 st)) ∨ (c = .ret ∧ ¬ (pre.map (·.1) <+: namesL))) ∧ Below w.heap.size w W)
    (OwnFrom.and (Own.from (fun s A B row hs hg hr => ⟨hs.1, hs.2.1, cell_kept hs.2.2.1 hg hr, cell_kept hs.2.2.2.1 hg hr, (frozen_kept hs.2.2.2.1 hg hr).trans hs.2.2.2.2.1, cell_kept hs.2.2.2.2.2.1 hg hr, cell_kept hs.2.2.2.2.2.2.1 hg hr, (frozen_kept hs.2.2.2.2.2.2.1 hg hr).trans hs.2.2.2.2.2.2.2.1, fun j hj => cell_kept (hs.2.2.2.2.2.2.2.2 j hj) hg hr⟩) _) (ownFrom_below (Nat.le_refl _) (by omega)))
    (fun c => OwnFrom.and (Own.from (fun s A B row hs hg hr => hs.elim (fun h => .inl ⟨h.1, h.2.1, cell_kept h.2.2.1 hg hr, cell_kept h.2.2.2.1 hg hr, (frozen_kept h.2.2.2.1 hg hr).trans h.2.2.2.2.1, cell_kept h.2.2.2.2.2.1 hg hr, cell_kept h.2.2.2.2.2.2 hg hr⟩) (fun h => .inr h)) _) (ownFrom_below (Nat.le_refl _) (by omega)))
    ⟨⟨Nat.zero_le _, rfl, k0, k1, kf, n0', n1.1, n1.2, kH⟩, hB3⟩
    (fun x => { tmps := #[.int .u8 st, .pointer (some ⟨w.heap.size, 0, none⟩), .pointer (some ⟨w.heap.size + 1, 0, none⟩), .pointer (some ⟨N, 0, none⟩), .pointer (some ⟨N + 1, 0, none⟩), .func (.func 20) #[] #[], .string x.1, .bool true, .bool false, .slice (some ⟨M, 0, none⟩) 28 28, .func (.func 20) #[] #[], .func (.func 20) #[] #[], .bool true, .func (.func 20) #[] #[], .string x.1, undef, undef, undef, undef, undef, undef, undef, undef, undef, undef, undef, undef, undef, undef, undef, undef, undef, undef, undef, undef, undef, undef, undef, undef, undef], defers := [] }) ?assign ?body ?done ?stop
  case assign =>
    intro l x W K hK
    gi_wp2
    exact hK
  case body =>
    rintro l pre x W ⟨⟨hle, hmap, a0, a1, af, an, ac, acf, aH⟩, hB⟩ hlen
    have hnl : (N + 1) < W.heap.size := World.block_lt_of_cell? (w := W) (a := ⟨N + 1, 0, none⟩) ac
    have HM := Lib.hid hmap
    have hlx : (pre ++ [x]).length = pre.length + 1 := by simp
    have HX := Lib.hid hlx
    clear hmap hlx
    by_cases hge : st ≤ pre.length
    · have hpe : pre.length = st := by omega
      have ac' : W.cell? ⟨N + 1, 0, none⟩ = some (.int .i64 st) := by rw [ac, hpe]
      have hpx : (pre ++ [x]).length = st + 1 := by rw [HX.out, hpe]
      clear ac hpe
      have HPX := Lib.hid hpx
      clear hpx hge hle
      gi_wp2
      exact ⟨KeepsFrom.refl _ _, .inl ⟨rfl, HPX.out, a0, a1, af, an, ac'⟩, hB⟩
    · have hlt : pre.length < st := by omega
      have hc := aH pre.length hlen
      have hn : pre.length < namesL.length := by rw [namesL_len]; exact hlen
      have hgd : namesL.getD pre.length ByteArray.empty = namesL[pre.length] := by simp [List.getD, List.getElem?_eq_getElem hn]
      have htk : namesL.take (pre.length + 1) = namesL.take pre.length ++ [namesL.getD pre.length ByteArray.empty] := by
        rw [hgd]
        exact List.take_succ_eq_append_getElem hn
      have HT2 := Lib.hid htk
      clear htk hgd hge
      by_cases hq : x.1 = namesL.getD pre.length ByteArray.empty
      · have HQ := Lib.hid hq
        rw [← hq] at hc
        clear hq
        have hac := World.cell?_setCell_same W ⟨N + 1, 0, none⟩ (.int .i64 ((pre.length : Int) + 1)) ac
        have hoth : ∀ q, q ≠ N + 1 → ∀ o, (W.setCell ⟨N + 1, 0, none⟩ (.int .i64 ((pre.length : Int) + 1))).cell? ⟨q, o, none⟩ = W.cell? ⟨q, o, none⟩ := fun q hq o => World.cell?_setCell_other _ _ _ _ (by intro e; cases e; exact hq rfl)
        have HO := Lib.hid hoth
        have HAC := Lib.hid hac
        clear hoth hac
        gi_wp2
        refine ⟨(KeepsOthers.setCell _ _ _).from _, (Below.refl _ _).setCell (p := ⟨N + 1, 0, none⟩) (by show w.heap.size ≤ N + 1; omega) _, ⟨by rw [HX.out]; omega, ?_, ?_, ?_, ?_, ?_, ?_, ?_, ?_⟩, hB.setCell (p := ⟨N + 1, 0, none⟩) (by show w.heap.size ≤ N + 1; omega) _⟩
        · rw [HX.out, HT2.out, List.map_append, HM.out, ← HQ.out]
          rfl
        · rw [HO.out _ (by omega)]; exact a0
        · rw [HO.out _ (by omega)]; exact a1
        · rw [World.frozen?_setCell]; exact af
        · rw [HO.out _ (by omega)]; exact an
        · rw [HX.out]; exact HAC.out
        · rw [World.frozen?_setCell]; exact acf
        · intro j hj
          rw [HO.out _ (by omega)]
          exact aH j hj
      · have hne : (x.1.toList == (namesL.getD pre.length ByteArray.empty).toList) = false := by
          rw [beq_eq_false_iff_ne]
          intro e
          apply hq
          rw [Lib.toList_data, Lib.toList_data] at e
          have := Array.toList_inj.1 e
          exact ByteArray.ext this
        have hnp : ¬ ((pre ++ [x]).map (·.1) <+: namesL) := by
          intro hp
          have h2 := List.prefix_iff_eq_take.1 hp
          rw [List.length_map, HX.out, HT2.out, List.map_append, HM.out] at h2
          have := List.append_inj_right h2 rfl
          simp only [List.map_cons, List.map_nil, List.cons.injEq, and_true] at this
          exact hq this
        have HNP := Lib.hid hnp
        clear hnp hq
        generalize namesL.getD pre.length ByteArray.empty = y at *
        gi_wp2
        exact ⟨(KeepsOthers.setCell _ _ _).from _, .inr ⟨rfl, HNP.out⟩, hB.setCell (p := ⟨w.heap.size + 1, 0, none⟩) (by show w.heap.size ≤ w.heap.size + 1; omega) _⟩
  case done =>
    rintro D ys W hD rfl ⟨⟨hle, _, a0, a1, af, an, ac, _, _⟩, hB⟩ hK
    rw [namesA_len] at hle ac
    by_cases h28 : st = 28
    · subst h28
      gi_wp2
      have hK' := (KeepsOthers.setCell W ⟨w.heap.size + 1, 0, none⟩ (.bool true)).same D _ hK rfl
      refine ⟨by simp, .inl ⟨_, _, rfl, run_takeDeferred hK', ?_⟩⟩
      have hc5 := cell_kept (World.cell?_setCell_same W ⟨w.heap.size + 1, 0, none⟩ (.bool true) a1) (grownBy_putObj' _ D (.deferred none)) (fun r e => by cases e; exact ⟨_, hK', rfl⟩)
      refine ⟨.bool true, ?_, rfl, (hB.setCell (p := ⟨w.heap.size + 1, 0, none⟩) (by show w.heap.size ≤ w.heap.size + 1; omega) _).trans (belowK_b (w := w) (Nat.le_refl _) _ D _ _ (by omega) hK' rfl rfl)⟩
      simp [results, Tryd.f4, go_sem, hc5]
    · have h29 : 28 < st := by omega
      clear h28 hle
      gi_wp2
      have hK' := (KeepsOthers.setCell W ⟨w.heap.size + 1, 0, none⟩ (.bool true)).same D _ hK rfl
      refine ⟨by simp, .inl ⟨_, _, rfl, run_takeDeferred hK', ?_⟩⟩
      have hc5 := cell_kept (World.cell?_setCell_same W ⟨w.heap.size + 1, 0, none⟩ (.bool true) a1) (grownBy_putObj' _ D (.deferred none)) (fun r e => by cases e; exact ⟨_, hK', rfl⟩)
      refine ⟨.bool true, ?_, rfl, (hB.setCell (p := ⟨w.heap.size + 1, 0, none⟩) (by show w.heap.size ≤ w.heap.size + 1; omega) _).trans (belowK_b (w := w) (Nat.le_refl _) _ D _ _ (by omega) hK' rfl rfl)⟩
      simp [results, Tryd.f4, go_sem, hc5]
  case stop =>
    rintro D c pre W hD hpre ⟨hx, hB⟩ hK
    rcases hx with ⟨rfl, hl, a0, a1, af, an, ac⟩ | ⟨rfl, hn⟩
    · have hle := hpre.length_le
      rw [namesA_len, hl] at hle
      gi_wp2
      have hK' := (KeepsOthers.setCell W ⟨w.heap.size + 1, 0, none⟩ (.bool true)).same D _ hK rfl
      refine ⟨by simp, .inl ⟨_, _, rfl, run_takeDeferred hK', ?_⟩⟩
      have hc5 := cell_kept (World.cell?_setCell_same W ⟨w.heap.size + 1, 0, none⟩ (.bool true) a1) (grownBy_putObj' _ D (.deferred none)) (fun r e => by cases e; exact ⟨_, hK', rfl⟩)
      refine ⟨.bool true, ?_, rfl, (hB.setCell (p := ⟨w.heap.size + 1, 0, none⟩) (by show w.heap.size ≤ w.heap.size + 1; omega) _).trans (belowK_b (w := w) (Nat.le_refl _) _ D _ _ (by omega) hK' rfl rfl)⟩
      simp [results, Tryd.f4, go_sem, hc5]
    · have e := hpre.map (fun x : Name28 => x.1)
      rw [namesA_map] at e
      exact (hn e).elim
end Go.Proofs.YtmjnjjjhdcecbaaDoor
