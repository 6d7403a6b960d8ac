/-
  The contract of filter.Forbidden: is a name one of the 28, however its letters are written.
-/
import Derived.Test.YtmjnjjjhdcecbaaDoorE
import Derived.RangeFuncWrites
import Derived.RangeFuncFrom
namespace Go.Proofs.YtmjnjjjhdcecbaaDoor
open Go.RowKit Go.Shelf
attribute [local go_sem] Oper.semAt_some

/-- Is a name one of the 28? -/
def forb (s : ByteArray) : Bool := namesL.any fun y => alikeB y s
theorem names_size : ∀ y ∈ namesL, y.size ≤ 100 := by decide +kernel

theorem keepsFrom_of_below {B : Nat} {W W' : World} (h : Below W.heap.size W W') : KeepsFrom B W W' :=
  ⟨h.size, fun k _ _ hk _ => (h.block k (Array.getElem?_eq_some_iff.1 hk).1).trans hk⟩

theorem cell_new_l (W : World) (v : Value) (t : TypeId) : (W.alloc (.cells #[v] t)).cell? ⟨W.heap.size, 0, none⟩ = some v ∧ (W.alloc (.cells #[v] t)).frozen? ⟨W.heap.size, 0, none⟩ = false :=
  ⟨cell_of_one (World.alloc_heap_new W _), free_of_one (World.alloc_heap_new W _)⟩
theorem cell_alloc_l {W : World} {a : Addr} {v : Value} (o : Obj) (h : W.cell? a = some v) : (W.alloc o).cell? a = some v := cell_kept h (World.grownBy_alloc W o none) (fun r e => by cases e)
theorem frozen_alloc_l {W : World} {a : Addr} {v : Value} (o : Obj) (h : W.cell? a = some v) (hf : W.frozen? a = false) : (W.alloc o).frozen? a = false := (frozen_kept h (World.grownBy_alloc W o none) (fun r e => by cases e)).trans hf

set_option maxRecDepth 100000 in
set_option maxHeartbeats 2000000 in
theorem forbidden_any (s : ByteArray) (w : World) (hs : s.size ≤ maxLen) (he : Ends w) (hT : Tab w) (h1 : 1 < w.heap.size) :
    Calls Tryd.prog 9 #[.string s] w fun e w' => e = .returned (.bool (forb s)) ∧ Below w.heap.size w w' := by
  refine (callsIn_wide (n := 4)).1 ?_
  refine callsIn_of_wp_marks Tryd.func9 rfl trivial ?_ rfl
  simp only [Tryd.ntmps9, List.size_toArray, List.length_cons, List.length_nil, Nat.reduceAdd, Nat.reduceSub, Array.replicate_succ, Array.replicate_zero, List.push_toArray, List.append_toArray, List.nil_append, List.cons_append]
  gi_wp2_with (refine ⟨trivial, ?_⟩; gi_at_call 11; refine (callsIn_wide.2 (names_any _)).mono ?_; rintro e w' ⟨rfl, rfl⟩)
  have c0 := cell_new_l w (.string s) 9
  have c1 := cell_new_l (w.alloc (.cells #[.string s] 9)) (.bool false) 4
  simp only [World.size_alloc] at c1
  have hB0 : Below w.heap.size w ((w.alloc (.cells #[.string s] 9)).alloc (.cells #[.bool false] 4)) := ((Below.refl _ w).alloc (Nat.le_refl _) _).alloc (by simp) _
  refine wpIn_rangeFunc_ownG rfl (by omega) (gf := 20) (lb := #[]) rfl trivial (enters_of Tryd.func20 (by kernel_rfl) rfl)
    (names_stops Fence.wide _ trivial rfl (by omega) w.heap.size _ (hT.kept hB0 (by omega)) (by simp)) belowK_t (belowK_b (by simp; omega)) (Below.refl _ _) (fun _ => rfl)
    (fun (pre : List Name28) W => ((pre.any (fun y => alikeB y.1 s)) = false ∧ W.cell? ⟨w.heap.size, 0, none⟩ = some (.string s) ∧ W.cell? ⟨w.heap.size + 1, 0, none⟩ = some (.bool false) ∧ W.frozen? ⟨w.heap.size + 1, 0, none⟩ = false) ∧ Below w.heap.size w W)
    (fun c (pre : List Name28) W => (c = .ret ∧ (pre.any (fun y => alikeB y.1 s)) = true ∧ W.cell? ⟨w.heap.size + 1, 0, none⟩ = some (.bool true)) ∧ Below w.heap.size w W)
    (OwnFrom.and (Own.from (fun s A B row hs hg hr => ⟨hs.1, cell_kept hs.2.1 hg hr, cell_kept hs.2.2.1 hg hr, (frozen_kept hs.2.2.1 hg hr).trans hs.2.2.2⟩) _) (ownFrom_below (Nat.le_refl _) (by simp; omega)))
    (fun c => OwnFrom.and (Own.from (fun s A B row hs hg hr => ⟨hs.1, hs.2.1, cell_kept hs.2.2 hg hr⟩) _) (ownFrom_below (Nat.le_refl _) (by simp; omega)))
    ⟨⟨rfl, cell_alloc_l _ c0.1, c1.1, c1.2⟩, hB0⟩
    (fun x => { tmps := #[.string s, .pointer (some ⟨w.heap.size, 0, none⟩), .pointer (some ⟨w.heap.size + 1, 0, none⟩), .string x.1, .func (.func 20) #[] #[], .string x.1, undef, undef, undef], defers := [] }) ?assign ?body ?done ?stop
  case assign =>
    intro l x W K hK
    gi_wp2
    exact hK
  case body =>
    rintro l pre x W ⟨⟨hp, hcn, hcr, hfr⟩, hB⟩ _
    have hsz := hB.size
    have hx := names_size x.1 x.2
    have hEW : Ends W := he.kept hB h1
    have hal := alike_any x.1 s W (by unfold maxLen; omega) hs hEW (by omega)
    have hblt := World.block_lt_of_cell? (w := W) (a := ⟨w.heap.size + 1, 0, none⟩) hcr
    have hany : ((pre ++ [x]).any fun y => alikeB y.1 s) = alikeB x.1 s := by rw [List.any_append, hp]; simp
    cases hq : alikeB x.1 s
    · rw [hq] at hal hany
      have HA := Lib.hid hany
      clear hany hq hp
      gi_wp2_with fail
      refine ⟨trivial, ?_⟩
      gi_at_call 18
      refine (CallsIn.inRound l (callsIn_wide.2 hal)).mono ?_
      rintro e w' ⟨rfl, hb'⟩
      gi_wp2
      exact ⟨keepsFrom_of_below hb', hb'.mono hsz, ⟨HA.out, (hb'.cell (p := ⟨w.heap.size, 0, none⟩) (by show w.heap.size < W.heap.size; have : w.heap.size + 1 < W.heap.size := hblt; omega)).trans hcn, (hb'.cell hblt).trans hcr, (hb'.frozen hblt).trans hfr⟩, hB.trans (hb'.mono hsz)⟩
    · rw [hq] at hal hany
      have HA := Lib.hid hany
      clear hany hq hp
      gi_wp2_with fail
      refine ⟨trivial, ?_⟩
      gi_at_call 18
      refine (CallsIn.inRound l (callsIn_wide.2 hal)).mono ?_
      rintro e w' ⟨rfl, hb'⟩
      have hcr' := (hb'.cell hblt).trans hcr
      have hfr' := (hb'.frozen hblt).trans hfr
      gi_wp2
      exact ⟨(keepsFrom_of_below hb').trans ((KeepsOthers.setCell _ _ _).from _), ⟨rfl, HA.out, World.cell?_setCell_same _ _ _ hcr'⟩, (hB.trans (hb'.mono hsz)).setCell (p := ⟨w.heap.size + 1, 0, none⟩) (by simp) _⟩
  case done =>
    rintro D ys W hD rfl ⟨⟨hne, _, hcr, hfr⟩, hB⟩ hK
    have hf : forb s = false := by
      unfold forb
      rw [← namesA_map, List.any_map]
      exact hne
    gi_wp2
    have hK' := (KeepsOthers.setCell W ⟨w.heap.size + 1, 0, none⟩ (.bool false)).same D _ hK rfl
    refine ⟨by simp, .inl ⟨_, _, rfl, run_takeDeferred hK', ?_⟩⟩
    have hc5 := cell_kept (World.cell?_setCell_same W ⟨w.heap.size + 1, 0, none⟩ (.bool false) hcr) (grownBy_putObj' _ D (.deferred none)) (fun r e => by cases e; exact ⟨_, hK', rfl⟩)
    refine ⟨.bool false, ?_, by rw [hf], (hB.setCell (p := ⟨w.heap.size + 1, 0, none⟩) (by simp) _).trans (belowK_b (w := w) (Nat.le_refl _) _ D _ _ (by simp at hD; omega) hK' rfl rfl)⟩
    simp [results, Tryd.f9, go_sem, hc5]
  case stop =>
    rintro D c pre W hD hpre ⟨⟨rfl, hin, hcr⟩, hB⟩ hK
    have hf : forb s = true := by
      unfold forb
      rw [← namesA_map, List.any_map]
      rw [List.any_eq_true] at hin ⊢
      obtain ⟨y, hy, hq⟩ := hin
      exact ⟨y, hpre.subset hy, hq⟩
    gi_wp2
    refine ⟨by simp, .inl ⟨_, _, rfl, run_takeDeferred hK, ?_⟩⟩
    have hc5 := cell_kept hcr (grownBy_putObj' _ D (.deferred none)) (fun r e => by cases e; exact ⟨_, hK, rfl⟩)
    refine ⟨.bool true, ?_, by rw [hf], hB.trans (belowK_b (w := w) (Nat.le_refl _) W D _ _ (by simp at hD; omega) hK rfl rfl)⟩
    simp [results, Tryd.f9, go_sem, hc5]
end Go.Proofs.YtmjnjjjhdcecbaaDoor
