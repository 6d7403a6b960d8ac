/-
  The reference's Write.
-/
import Derived.Test.YtmgkomobamjneaaH
namespace Go.Proofs.Ytmgkomobamjneaa
open Go.RowKit

/-- What the reference's Write comes to. -/
def RefWrote (ok : Nat → Prop) (w : World) (N h : Nat) (G m : List UInt8) (e : Ending) (w' : World) : Prop :=
  ∃ o1 c1, e = .returned (.tuple #[.agg #[.int .i64 N, .int .i64 h, .slice o1 (G.length + room N G.length m.length) c1], .int .i64 (room N G.length m.length : Nat)]) ∧
    Bytes (fun q => w.heap.size ≤ q) w' (.slice o1 (G.length + room N G.length m.length) c1) (G ++ m.take (room N G.length m.length)) ∧ Below w.heap.size w w'

theorem cells_two {w W : World} {A B : Array Value} {t t2 : TypeId} (hW : (w.alloc (.cells A t)).alloc (.cells B t2) = W) :
    W.heap[w.heap.size]? = some (.cells A t (0, 0)) ∧ W.heap[w.heap.size + 1]? = some (.cells B t2 (0, 0)) ∧ W.heap.size = w.heap.size + 2 ∧ Below w.heap.size w W := by
  subst hW
  refine ⟨?_, ?_, by simp, ((Below.refl _ _).alloc (Nat.le_refl _) _).alloc (by simp) _⟩
  · rw [Below.heap_alloc _ _ _ (by simp)]
    exact World.alloc_heap_new w _
  · have := World.alloc_heap_new (w.alloc (.cells A t)) (.cells B t2)
    rwa [World.size_alloc] at this

set_option maxRecDepth 100000 in
set_option maxHeartbeats 4000000 in
theorem refWrite_any {ok ok' : Nat → Prop} (N h : Nat) (o : Option Addr) (c : Nat) (G : List UInt8) (om : Option Addr) (cm : Nat) (m : List UInt8) (w : World) (hG : Bytes ok w (.slice o G.length c) G) (hm : Bytes ok' w (.slice om m.length cm) m) (hl : G.length ≤ N) (hN : N ≤ 1000) (hml : m.length ≤ 140737488355328) :
    Calls Try.prog 22 #[.agg #[.int .i64 N, .int .i64 h, .slice o G.length c], .slice om m.length cm] w (RefWrote ok w N h G m) := by
  have hcl : m.length ≤ cm ∧ cm ≤ maxLen := by
    obtain ⟨_, _, e, q1, q2, _⟩ := hm.form
    cases e
    exact ⟨q1, q2⟩
  have hKd : room N G.length m.length = min m.length (N - G.length) := rfl
  have hK : room N G.length m.length ≤ m.length ∧ room N G.length m.length ≤ N := by unfold room; omega
  have hT := Bytes.take (k := room N G.length m.length) hm rfl hK.1 hcl.1 hcl.2
  have hGK := fun w' (hb : Below w.heap.size w w') => hG.kept (Frm.of_below (ok := fun _ => True) hb (fun q hq _ => hq)) (fun _ _ _ => trivial)
  have hTK := fun w' (hb : Below w.heap.size w w') => hT.kept (Frm.of_below (ok := fun _ => True) hb (fun q hq _ => hq)) (fun _ _ _ => trivial)
  have htl : (m.take (room N G.length m.length)).length = room N G.length m.length := by rw [List.length_take]; omega
  unfold maxLen at hcl
  unfold RefWrote
  have hcase : (m.length < N - G.length ∧ room N G.length m.length = m.length) ∨ (¬ m.length < N - G.length ∧ room N G.length m.length = N - G.length) := by omega
  generalize room N G.length m.length = K at *
  generalize m.take K = mk at *
  obtain ⟨F, hF⟩ : ∃ F, G.length + F = N := ⟨N - G.length, by omega⟩
  have HGK := Lib.hid hGK
  have HTK := Lib.hid hTK
  have HTL := Lib.hid htl
  clear hG hm hT hGK hTK htl hKd
  have hGl : G.length ≤ 1000 := by omega
  rcases hcase with ⟨h1, hK1⟩ | ⟨h1, hK1⟩
  · obtain rfl : K = m.length := hK1
    have hlt : (m.length : Int) < (N : Int) - G.length := by omega
    go_enter Try.func22, Try.ntmps22
    go_wp2_with (at_builtin; generalize hW : World.alloc (World.alloc w _) _ = W; obtain ⟨a1, a2, a3, a4⟩ := cells_two hW; refine wpList_append_bytes_at (ok := ok) rfl _ _ rfl (w.heap.size + 2) _ 0 [] rfl (World.ownsRow_nil _ _ _ _) _ G rfl (HGK.out _ a4) (by omega) (by omega) ?_; intro o1 c1 w5 hown5 hgrow5 hat5; have F5 : Frm (fun _ => True) W w5 := (Frm.refl _ _).grown hgrow5 (fun q hq _ _ => by cases hq); have b1 := frm_block F5 a1 trivial; have b2 := frm_block F5 a2 trivial; have hB5 := a4.trans (F5.below (by omega) (fun _ _ => trivial)); have hz5 := F5.size; clear a1 a2 hat5 hgrow5 hW; rw [List.nil_append, Nat.zero_add] at hown5; have HO5 := Lib.hid hown5; have HB1 := Lib.hid b1; have HB2 := Lib.hid b2; obtain ⟨x0, x1, x2, _⟩ := row3 b1; clear b1 b2 hown5)
    have HBT := Lib.hid (HTK.out w5 hB5)
    have hmk : G.length + mk.length ≤ 140737488355328 := by rw [HTL.out]; omega
    go_region_held3 (fun w' => w'.cell? ⟨w.heap.size, 0, none⟩ = some (.int .i64 N) ∧ w'.cell? ⟨w.heap.size, 1, none⟩ = some (.int .i64 h))
      (first | exact ⟨x0, x1⟩ | exact ⟨y0, y1⟩ | (refine ⟨?_, ?_⟩ <;> (repeat rw [World.cell?_setCell_other _ _ _ _ (by simp)]) <;> assumption))
      ((refine step_append_bytes (ok := ok') (by rfl) _ _ (by rfl) (w.heap.size + 2) _ G.length (G.map byteVal) (by rfl) HO5.out (.slice om m.length cm) mk (by rfl) (HBT.out.kept (Frm.refl (fun _ => True) _).drew (fun _ _ _ => trivial)) hmk (by show w.heap.size + 2 ≤ w5.heap.size; omega) ?_; intro o2 c2 w6 hown6 hgrow6 hat6; have F6 : Frm (fun q => q < w.heap.size + 2) w5 w6 := Frm.undrew ((Frm.refl _ _).grown hgrow6 (fun q hq _ hlt => (by have := (HO5.out.lt q hq).1; omega))); have b6 := frm_block F6 HB1.out (by omega); have r6 := frm_block F6 HB2.out (by omega); obtain ⟨y0, y1, y2, _⟩ := row3 b6; obtain ⟨z0, z1, z2, g0, g1, g2⟩ := row3 r6; have hz6 := F6.size; rw [HTL.out] at hown6; have HO6 := Lib.hid hown6; have HR6 := Lib.hid r6; clear hown6 hgrow6 hat6 b6 r6))
    have hB6 : Below w.heap.size w w6 := hB5.trans (F6.below hB5.size (fun k hk => by omega))
    have hO6 : w6.ownsRow (w.heap.size + 2) 5 1 (.slice o2 (G.length + m.length) c2) (G.length + m.length) ((G ++ mk).map byteVal) := by rw [List.map_append]; exact HO6.out
    have hby := Bytes.of_owns (ok := fun q => w.heap.size + 2 ≤ q) hO6 (by rw [List.length_append, HTL.out]) (fun q hq _ => hq)
    have HBY := Lib.hid hby
    clear hO6 hby
    go_wp2_with fail
    refine bodyPost_ret (v := .tuple #[.agg #[.int .i64 N, .int .i64 h, .slice o2 (G.length + mk.length) c2], .int .i64 m.length]) (by simp [results, Try.results22, go_sem, z0, z1, z2]) rfl ?_
    refine ⟨o2, c2, by rw [HTL.out], (HBY.out.kept (ok' := fun q => w.heap.size + 2 ≤ q) ?_ (fun q _ hq => hq)).mono (fun q _ hq => by omega), ?_⟩
    · repeat first | (with_reducible exact Frm.refl _ _) | (with_reducible apply Frm.drew) | (with_reducible refine Frm.setCell ?_ _ _ _ (fun _ h => by have h' : w.heap.size + 2 ≤ _ := h; omega))
    · repeat first | (with_reducible exact hB6) | (with_reducible apply Below.drew) | (with_reducible refine Below.setCell ?_ (by simp) _)
  · obtain rfl : K = F := by omega
    have hNF : (N : Int) - G.length = (K : Int) := by omega
    have hlt : ¬ (m.length : Int) < (K : Int) := by omega
    have hk0 : (0 : Int) ≤ (K : Int) := by omega
    have hk1 : (K : Int) ≤ (cm : Int) := by omega
    clear hK1 h1
    go_enter Try.func22, Try.ntmps22
    go_wp2_with (at_builtin; generalize hW : World.alloc (World.alloc w _) _ = W; obtain ⟨a1, a2, a3, a4⟩ := cells_two hW; refine wpList_append_bytes_at (ok := ok) rfl _ _ rfl (w.heap.size + 2) _ 0 [] rfl (World.ownsRow_nil _ _ _ _) _ G rfl (HGK.out _ a4) (by omega) (by omega) ?_; intro o1 c1 w5 hown5 hgrow5 hat5; have F5 : Frm (fun _ => True) W w5 := (Frm.refl _ _).grown hgrow5 (fun q hq _ _ => by cases hq); have b1 := frm_block F5 a1 trivial; have b2 := frm_block F5 a2 trivial; have hB5 := a4.trans (F5.below (by omega) (fun _ _ => trivial)); have hz5 := F5.size; clear a1 a2 hat5 hgrow5 hW; rw [List.nil_append, Nat.zero_add] at hown5; have HO5 := Lib.hid hown5; have HB1 := Lib.hid b1; have HB2 := Lib.hid b2; obtain ⟨x0, x1, x2, _⟩ := row3 b1; clear b1 b2 hown5)
    have HBT := Lib.hid (HTK.out w5 hB5)
    have hmk : G.length + mk.length ≤ 140737488355328 := by rw [HTL.out]; omega
    go_region_held3 (fun w' => w'.cell? ⟨w.heap.size, 0, none⟩ = some (.int .i64 N) ∧ w'.cell? ⟨w.heap.size, 1, none⟩ = some (.int .i64 h))
      (first | exact ⟨x0, x1⟩ | exact ⟨y0, y1⟩ | (refine ⟨?_, ?_⟩ <;> (repeat rw [World.cell?_setCell_other _ _ _ _ (by simp)]) <;> assumption))
      ((refine step_append_bytes (ok := ok') (by rfl) _ _ (by rfl) (w.heap.size + 2) _ G.length (G.map byteVal) (by rfl) HO5.out (.slice om K cm) mk (by rfl) (HBT.out.kept (Frm.refl (fun _ => True) _).drew (fun _ _ _ => trivial)) hmk (by show w.heap.size + 2 ≤ w5.heap.size; omega) ?_; intro o2 c2 w6 hown6 hgrow6 hat6; have F6 : Frm (fun q => q < w.heap.size + 2) w5 w6 := Frm.undrew ((Frm.refl _ _).grown hgrow6 (fun q hq _ hlt => (by have := (HO5.out.lt q hq).1; omega))); have b6 := frm_block F6 HB1.out (by omega); have r6 := frm_block F6 HB2.out (by omega); obtain ⟨y0, y1, y2, _⟩ := row3 b6; obtain ⟨z0, z1, z2, g0, g1, g2⟩ := row3 r6; have hz6 := F6.size; rw [HTL.out] at hown6; have HO6 := Lib.hid hown6; have HR6 := Lib.hid r6; clear hown6 hgrow6 hat6 b6 r6))
    have hB6 : Below w.heap.size w w6 := hB5.trans (F6.below hB5.size (fun k hk => by omega))
    have hO6 : w6.ownsRow (w.heap.size + 2) 5 1 (.slice o2 (G.length + K) c2) (G.length + K) ((G ++ mk).map byteVal) := by rw [List.map_append]; exact HO6.out
    have hby := Bytes.of_owns (ok := fun q => w.heap.size + 2 ≤ q) hO6 (by rw [List.length_append, HTL.out]) (fun q hq _ => hq)
    have HBY := Lib.hid hby
    clear hO6 hby
    go_wp2_with fail
    refine bodyPost_ret (v := .tuple #[.agg #[.int .i64 N, .int .i64 h, .slice o2 (G.length + mk.length) c2], .int .i64 K]) (by simp [results, Try.results22, go_sem, z0, z1, z2]) rfl ?_
    refine ⟨o2, c2, by rw [HTL.out], (HBY.out.kept (ok' := fun q => w.heap.size + 2 ≤ q) ?_ (fun q _ hq => hq)).mono (fun q _ hq => by omega), ?_⟩
    · repeat first | (with_reducible exact Frm.refl _ _) | (with_reducible apply Frm.drew) | (with_reducible refine Frm.setCell ?_ _ _ _ (fun _ h => by have h' : w.heap.size + 2 ≤ _ := h; omega))
    · repeat first | (with_reducible exact hB6) | (with_reducible apply Below.drew) | (with_reducible refine Below.setCell ?_ (by simp) _)
end Go.Proofs.Ytmgkomobamjneaa
