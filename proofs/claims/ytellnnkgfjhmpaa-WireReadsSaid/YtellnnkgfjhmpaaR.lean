/-
  The reference's Close and Write.
-/
import Derived.Test.YtellnnkgfjhmpaaI
namespace Go.Proofs.Ytellnnkgfjhmpaa
open Go.RowKit

set_option maxHeartbeats 1000000 in
theorem refClose_any (ot og : Option Addr) (nt ct ng cg : Nat) (en : Int) (cl go : Bool) (w : World) :
    Calls Try.prog 20 #[.agg #[.slice ot nt ct, .int .i64 en, .slice og ng cg, .bool cl, .bool go]] w fun e w' => e = .returned (.tuple #[.agg #[.slice ot nt ct, .int .i64 en, .slice og ng cg, .bool (cl || !go), .bool go], .int .i64 (stateOf cl go)]) ∧ Below w.heap.size w w' := by
  rcases cl with _ | _
  · rcases go with _ | _
    · go_enter Try.func20, Try.ntmps20
      go_wp2
      refine bodyPost_ret (v := .tuple #[.agg #[.slice ot nt ct, .int .i64 en, .slice og ng cg, .bool true, .bool false], .int .i64 0]) (by simp [results, Try.results20, go_sem]) rfl ⟨rfl, ?_⟩
      repeat first | exact Below.refl _ _ | apply Below.drew | (refine Below.alloc ?_ (by simp <;> omega) _) | (refine Below.setCell ?_ (by simp) _)
    · go_enter Try.func20, Try.ntmps20
      go_wp2
      refine bodyPost_ret (v := .tuple #[.agg #[.slice ot nt ct, .int .i64 en, .slice og ng cg, .bool false, .bool true], .int .i64 9]) (by simp [results, Try.results20, go_sem]) rfl ⟨rfl, ?_⟩
      repeat first | exact Below.refl _ _ | apply Below.drew | (refine Below.alloc ?_ (by simp <;> omega) _) | (refine Below.setCell ?_ (by simp) _)
  · go_enter Try.func20, Try.ntmps20
    go_wp2
    refine bodyPost_ret (v := .tuple #[.agg #[.slice ot nt ct, .int .i64 en, .slice og ng cg, .bool true, .bool go], .int .i64 8]) (by simp [results, Try.results20, go_sem]) rfl ⟨rfl, ?_⟩
    repeat first | exact Below.refl _ _ | apply Below.drew | (refine Below.alloc ?_ (by simp <;> omega) _) | (refine Below.setCell ?_ (by simp) _)

/-- What the reference's Write comes to. -/
def RefWrote (ok : Nat → Prop) (w : World) (en : Int) (cl : Bool) (R : List Int × List UInt8 × Bool × Nat × Int) (e : Ending) (w' : World) : Prop :=
  ∃ ot ct og cg, e = .returned (.tuple #[.agg #[.slice ot R.1.length ct, .int .i64 en, .slice og R.2.1.length cg, .bool cl, .bool R.2.2.1], .agg #[.slice none 0 0, .int .i64 (R.2.2.2.1 : Int), .int .i64 R.2.2.2.2]]) ∧
    Ints ok w' (.slice ot R.1.length ct) R.1 ∧ Bytes (fun q => ok q ∨ w.heap.size ≤ q) w' (.slice og R.2.1.length cg) R.2.1 ∧ Below w.heap.size w w'

theorem RefWrote.still {ok : Nat → Prop} {w w' : World} {en : Int} {T : List Int} {G : List UInt8} {cl go : Bool} {n : Nat} {er : Int} {ot og : Option Addr} {ct cg : Nat} (hT : Ints ok w (.slice ot T.length ct) T) (hG : Bytes ok w (.slice og G.length cg) G) (hB : Below w.heap.size w w') :
    RefWrote ok w en cl (T, G, go, n, er) (.returned (.tuple #[.agg #[.slice ot T.length ct, .int .i64 en, .slice og G.length cg, .bool cl, .bool go], .agg #[.slice none 0 0, .int .i64 (n : Int), .int .i64 er]])) w' :=
  ⟨ot, ct, og, cg, rfl, hT.kept (Frm.of_below (ok := fun _ => True) hB (fun q hq _ => hq)) (fun _ _ _ => trivial), (hG.mono (fun _ _ h => .inl h)).kept (Frm.of_below (ok := fun _ => True) hB (fun q hq _ => hq)) (fun _ _ _ => trivial), hB⟩

theorem laid3 {w W : World} {A : Array Value} {t : TypeId} {B C : Obj} (hW : ((w.alloc (.cells A t)).alloc B).alloc C = W) :
    W.heap[w.heap.size]? = some (.cells A t (0, 0)) ∧ W.heap[w.heap.size + 1]? = some B ∧ W.heap[w.heap.size + 1 + 1]? = some C ∧ W.heap.size = w.heap.size + 3 ∧ Below w.heap.size w W := by
  subst hW
  refine ⟨?_, ?_, ?_, by simp only [World.size_alloc], ?_⟩
  · rw [Below.heap_alloc _ _ _ (by simp only [World.size_alloc]; omega), Below.heap_alloc _ _ _ (by simp only [World.size_alloc]; omega)]
    exact heap_alloc_new w _
  · rw [Below.heap_alloc _ _ _ (by simp only [World.size_alloc]; omega)]
    have := heap_alloc_new (w.alloc (.cells A t)) B
    rwa [World.size_alloc] at this
  · have := heap_alloc_new ((w.alloc (.cells A t)).alloc B) C
    rwa [World.size_alloc, World.size_alloc] at this
  · exact (((Below.refl _ _).alloc (Nat.le_refl _) _).alloc (by simp only [World.size_alloc]; omega) _).alloc (by simp only [World.size_alloc]; omega) _
theorem laid3_set {w W : World} {A : Array Value} {t : TypeId} {B C : Obj} {i : Nat} {v : Value} (hW : (((w.alloc (.cells A t)).alloc B).alloc C).setCell ⟨w.heap.size, i, none⟩ v = W) :
    W.heap[w.heap.size]? = some (.cells (A.setIfInBounds i v) t (0, 0)) ∧ W.heap[w.heap.size + 1]? = some B ∧ W.heap[w.heap.size + 1 + 1]? = some C ∧ W.heap.size = w.heap.size + 3 ∧ Below w.heap.size w W := by
  subst hW
  obtain ⟨h1, h2, h3, h4, h5⟩ := laid3 (w := w) (A := A) (t := t) (B := B) (C := C) rfl
  refine ⟨row_setCell' h1, (Below.heap_setCell _ _ _ _ (by simp only; omega)).trans h2, (Below.heap_setCell _ _ _ _ (by simp only; omega)).trans h3, by rw [World.size_setCell]; exact h4, h5.setCell (Nat.le_refl _) _⟩
theorem row_cells {w : World} {b : Nat} {cs : Array Value} {t : TypeId} (h : w.heap[b]? = some (.cells cs t (0, 0))) : (∀ i, w.cell? ⟨b, i, none⟩ = cs[i]?) ∧ ∀ i, w.frozen? ⟨b, i, none⟩ = false :=
  ⟨fun i => by simp [World.cell?, h], fun i => by simp [World.frozen?, h]⟩

theorem row5 {w : World} {b : Nat} {v0 v1 v2 v3 v4 : Value} {t : TypeId} (h : w.heap[b]? = some (.cells #[v0, v1, v2, v3, v4] t (0, 0))) :
    w.cell? ⟨b, 0, none⟩ = some v0 ∧ w.cell? ⟨b, 1, none⟩ = some v1 ∧ w.cell? ⟨b, 2, none⟩ = some v2 ∧ w.cell? ⟨b, 3, none⟩ = some v3 ∧ w.cell? ⟨b, 4, none⟩ = some v4 ∧
    w.frozen? ⟨b, 0, none⟩ = false ∧ w.frozen? ⟨b, 1, none⟩ = false ∧ w.frozen? ⟨b, 2, none⟩ = false ∧ w.frozen? ⟨b, 3, none⟩ = false ∧ w.frozen? ⟨b, 4, none⟩ = false := by
  refine ⟨?_, ?_, ?_, ?_, ?_, ?_, ?_, ?_, ?_, ?_⟩ <;> first | simp [World.cell?, h] | simp [World.frozen?, h]
theorem row3 {w : World} {b : Nat} {v0 v1 v2 : Value} {t : TypeId} (h : w.heap[b]? = some (.cells #[v0, v1, v2] t (0, 0))) :
    w.cell? ⟨b, 0, none⟩ = some v0 ∧ w.cell? ⟨b, 1, none⟩ = some v1 ∧ w.cell? ⟨b, 2, none⟩ = some v2 ∧
    w.frozen? ⟨b, 0, none⟩ = false ∧ w.frozen? ⟨b, 1, none⟩ = false ∧ w.frozen? ⟨b, 2, none⟩ = false := by
  refine ⟨?_, ?_, ?_, ?_, ?_, ?_⟩ <;> first | simp [World.cell?, h] | simp [World.frozen?, h]

set_option maxRecDepth 100000 in
set_option maxHeartbeats 4000000 in
theorem refWrite_any {ok : Nat → Prop} (ot og ob : Option Addr) (ct cg cb : Nat) (T : List Int) (en : Int) (G l : List UInt8) (cl go : Bool) (w : World) (hT : Ints ok w (.slice ot T.length ct) T) (hG : Bytes ok w (.slice og G.length cg) G) (hb : Bytes ok w (.slice ob l.length cb) l)
    (hneg : anyNeg T = false) (h0 : 0 ≤ en) (h2 : en ≤ 2) (hl : l.length ≤ 10000) (hGl : G.length ≤ 100000) :
    Calls Try.prog 22 #[.agg #[.slice ot T.length ct, .int .i64 en, .slice og G.length cg, .bool cl, .bool go], .slice ob l.length cb] w (RefWrote ok w en cl (writeOf T en G cl go l)) := by
  rcases cl with _ | _
  · rcases go with _ | _
    · by_cases hl0 : l = []
      · subst hl0
        have HE := Lib.hid (show writeOf T en G false false [] = (T, G, false, 0, 0) from rfl)
        rw [HE.out]
        have HR := Lib.hid (fun w' h => RefWrote.still (w' := w') (en := en) (cl := false) (go := false) (n := 0) (er := 0) hT hG h)
        clear HE hT hG hb hneg
        go_enter Try.func22, Try.ntmps22
        go_wp2
        refine bodyPost_ret (v := .tuple #[.agg #[.slice ot T.length ct, .int .i64 en, .slice og G.length cg, .bool false, .bool false], .agg #[.slice none 0 0, .int .i64 0, .int .i64 0]]) (by simp [results, Try.results22, go_sem]) rfl (HR.out _ ?_)
        repeat first | exact Below.refl _ _ | apply Below.drew | (refine Below.alloc ?_ (by simp <;> omega) _) | (refine Below.setCell ?_ (by simp) _)
      · have hlp : 0 < l.length := List.length_pos_iff.2 hl0
        have hcb : l.length ≤ cb ∧ cb ≤ maxLen := by
          obtain ⟨_, _, e, q, q2, _⟩ := hb.form
          cases e
          exact ⟨q, q2⟩
        obtain ⟨hcb, hcb2⟩ := hcb
        have HGK := Lib.hid (fun w' (h : Below w.heap.size w w') => (hG.mono (ok' := fun q => ok q ∨ w.heap.size ≤ q) (fun _ _ h => .inl h)).kept (Frm.of_below (ok := fun _ => True) h (fun q hq _ => hq)) (fun _ _ _ => trivial))
        have HLK := Lib.hid (fun w' (h : Below w.heap.size w w') => hb.kept (Frm.of_below (ok := fun _ => True) h (fun q hq _ => hq)) (fun _ _ _ => trivial))
        have HTK := Lib.hid (fun w' (h : Below w.heap.size w w') tv T' (h' : Ints ok w tv T') => h'.kept (Frm.of_below (ok := fun _ => True) h (fun q hq _ => hq)) (fun _ _ _ => trivial))
        rcases T with _ | ⟨z, t⟩
        · have HTL := Lib.hid hT
          clear hT hG hb hneg
          by_cases e1 : en = 1
          · subst e1
            have HE := Lib.hid (show writeOf [] 1 G false false l = ([], G ++ l, false, l.length, 0) by simp [writeOf, hl0, takeN, goneOf])
            go_enter Try.func22, Try.ntmps22
            go_wp2_with (first
              | (at_builtin; refine wpList_append_bytes_at (ok := ok) rfl _ _ rfl (w.heap.size + 3) _ G.length (G.map byteVal) rfl HO5.out _ (l) rfl (HLK.out _ HB5.out) (by omega) (by omega) ?_; intro o2 c2 w6 hown6 hgrow6 hat6; have F6 : Frm (fun q => q < w.heap.size + 3) w5 w6 := (Frm.refl _ _).grown hgrow6 (fun q hq _ hlt => (by have := (HO5.out.lt q hq).1; omega)); have e1 := frm_block F6 (frm_block F5 a1 trivial) (by omega); have e2 := frm_block F6 (frm_block F5 a2 trivial) (by omega); have e3 := frm_block F6 (frm_block F5 a3 trivial) (by omega); obtain ⟨x0, x1, x2, x3, x4, y0, y1, y2, y3, y4⟩ := row5 e1; obtain ⟨x5, x6, x7, x8, x9, y5, y6, y7, y8, y9⟩ := row5 e2; obtain ⟨x10, x11, x12, y10, y11, y12⟩ := row3 e3)
              | (at_builtin; generalize hW : World.alloc (World.alloc (World.alloc w _) _) _ = W; obtain ⟨a1, a2, a3, a4, a5⟩ := laid3 hW; refine wpList_append_bytes_at (ok := fun q => ok q ∨ w.heap.size ≤ q) rfl _ _ rfl (w.heap.size + 3) _ 0 [] rfl (World.ownsRow_nil _ _ _ _) _ G rfl (HGK.out _ a5) (by omega) (by omega) ?_; intro o1 c1 w5 hown5 hgrow5 hat5; have F5 : Frm (fun _ => True) W w5 := (Frm.refl _ _).grown hgrow5 (fun q hq => (by cases hq)); have HO5 := Lib.hid (show w5.ownsRow (w.heap.size + 3) 5 1 (.slice o1 G.length c1) G.length (G.map byteVal) from (by simpa using hown5)); have HB5 := Lib.hid (below_frm a5 a5.size F5 (fun _ _ => trivial)); have hz5 := F5.size))
            have hB6 : Below w.heap.size w w6 := below_frm HB5.out (by omega) F6 (fun q hq => by omega)
            have hown6' : w6.ownsRow (w.heap.size + 3) 5 1 (.slice o2 (G ++ l).length c2) (G ++ l).length ((G ++ l).map byteVal) := by rw [List.length_append, List.map_append]; exact hown6
            have hby6 : Bytes (fun q => w.heap.size + 3 ≤ q) w6 _ (G ++ l) := Bytes.of_owns hown6' rfl (fun q hq _ => hq)
            refine bodyPost_ret (v := .tuple #[.agg #[.slice (ot) ([] : List Int).length (ct), .int .i64 1, .slice o2 (G ++ l).length c2, .bool false, .bool false], .agg #[.slice none 0 0, .int .i64 ((l : List UInt8).length : Int), .int .i64 0]]) (by simp [results, Try.results22, go_sem, x5, x6, x7, x8, x9, x10, x11, x12, y5, y6, y7, y8, y9, y10, y11, y12]) rfl ?_
            rw [HE.out]
            refine ⟨_, _, _, _, rfl, HTK.out _ ?_ _ _ HTL.out, (hby6.kept (ok' := fun q => w.heap.size + 3 ≤ q) ?_ (fun q _ hq => hq)).mono (fun q _ hq => .inr (by omega)), ?_⟩
            · repeat first | (with_reducible exact hB6) | (with_reducible refine Below.setCell ?_ (by simp <;> omega) _)
            · repeat first | (with_reducible exact Frm.refl _ _) | (with_reducible refine Frm.setCell ?_ _ _ _ (fun _ h => by have h' : w.heap.size + 3 ≤ _ := h; omega))
            · repeat first | (with_reducible exact hB6) | (with_reducible refine Below.setCell ?_ (by simp <;> omega) _)
          · by_cases e2 : en = 2
            · subst e2
              have HE := Lib.hid (show writeOf [] 2 G false false l = ([], G, true, 0, 9) by simp [writeOf, hl0, takeN, goneOf])
              go_enter Try.func22, Try.ntmps22
              go_wp2
              refine bodyPost_ret (v := .tuple #[.agg #[.slice ot ([] : List Int).length ct, .int .i64 2, .slice og G.length cg, .bool false, .bool true], .agg #[.slice none 0 0, .int .i64 0, .int .i64 9]]) (by simp [results, Try.results22, go_sem]) rfl ?_
              rw [HE.out]
              refine ⟨_, _, _, _, rfl, HTK.out _ ?_ _ _ HTL.out, HGK.out _ ?_, ?_⟩
              all_goals repeat first | exact Below.refl _ _ | apply Below.drew | (refine Below.alloc ?_ (by simp <;> omega) _) | (refine Below.setCell ?_ (by simp) _)
            · obtain rfl : en = 0 := by omega
              have HE := Lib.hid (show writeOf [] 0 G false false l = ([], G ++ [], false, 0, 0) by simp [writeOf, hl0, takeN, goneOf])
              have HLT := Lib.hid (fun w' h => ((HLK.out w' h).take rfl (Nat.zero_le _) hcb hcb2))
              go_enter Try.func22, Try.ntmps22
              go_wp2_with (first
                | (at_builtin; refine wpList_append_bytes_at (ok := ok) rfl _ _ rfl (w.heap.size + 3) _ G.length (G.map byteVal) rfl HO5.out _ ([]) rfl (HLT.out _ HB5.out) (by simp; omega) (by omega) ?_; intro o2 c2 w6 hown6 hgrow6 hat6; have F6 : Frm (fun q => q < w.heap.size + 3) w5 w6 := (Frm.refl _ _).grown hgrow6 (fun q hq _ hlt => (by have := (HO5.out.lt q hq).1; omega)); have e1 := frm_block F6 (frm_block F5 a1 trivial) (by omega); have e2 := frm_block F6 (frm_block F5 a2 trivial) (by omega); have e3 := frm_block F6 (frm_block F5 a3 trivial) (by omega); obtain ⟨x0, x1, x2, x3, x4, y0, y1, y2, y3, y4⟩ := row5 e1; obtain ⟨x5, x6, x7, x8, x9, y5, y6, y7, y8, y9⟩ := row5 e2; obtain ⟨x10, x11, x12, y10, y11, y12⟩ := row3 e3)
                | (at_builtin; generalize hW : World.alloc (World.alloc (World.alloc w _) _) _ = W; obtain ⟨a1, a2, a3, a4, a5⟩ := laid3 hW; refine wpList_append_bytes_at (ok := fun q => ok q ∨ w.heap.size ≤ q) rfl _ _ rfl (w.heap.size + 3) _ 0 [] rfl (World.ownsRow_nil _ _ _ _) _ G rfl (HGK.out _ a5) (by omega) (by omega) ?_; intro o1 c1 w5 hown5 hgrow5 hat5; have F5 : Frm (fun _ => True) W w5 := (Frm.refl _ _).grown hgrow5 (fun q hq => (by cases hq)); have HO5 := Lib.hid (show w5.ownsRow (w.heap.size + 3) 5 1 (.slice o1 G.length c1) G.length (G.map byteVal) from (by simpa using hown5)); have HB5 := Lib.hid (below_frm a5 a5.size F5 (fun _ _ => trivial)); have hz5 := F5.size))
              have hB6 : Below w.heap.size w w6 := below_frm HB5.out (by omega) F6 (fun q hq => by omega)
              have hown6' : w6.ownsRow (w.heap.size + 3) 5 1 (.slice o2 (G ++ []).length c2) (G ++ []).length ((G ++ []).map byteVal) := by rw [List.length_append, List.map_append]; exact hown6
              have hby6 : Bytes (fun q => w.heap.size + 3 ≤ q) w6 _ (G ++ []) := Bytes.of_owns hown6' rfl (fun q hq _ => hq)
              refine bodyPost_ret (v := .tuple #[.agg #[.slice (ot) ([] : List Int).length (ct), .int .i64 0, .slice o2 (G ++ []).length c2, .bool false, .bool false], .agg #[.slice none 0 0, .int .i64 (([] : List UInt8).length : Int), .int .i64 0]]) (by simp [results, Try.results22, go_sem, x5, x6, x7, x8, x9, x10, x11, x12, y5, y6, y7, y8, y9, y10, y11, y12]) rfl ?_
              rw [HE.out]
              refine ⟨_, _, _, _, rfl, HTK.out _ ?_ _ _ HTL.out, (hby6.kept (ok' := fun q => w.heap.size + 3 ≤ q) ?_ (fun q _ hq => hq)).mono (fun q _ hq => .inr (by omega)), ?_⟩
              · repeat first | (with_reducible exact hB6) | (with_reducible refine Below.setCell ?_ (by simp <;> omega) _)
              · repeat first | (with_reducible exact Frm.refl _ _) | (with_reducible refine Frm.setCell ?_ _ _ _ (fun _ h => by have h' : w.heap.size + 3 ≤ _ := h; omega))
              · repeat first | (with_reducible exact hB6) | (with_reducible refine Below.setCell ?_ (by simp <;> omega) _)
        · obtain ⟨bt, off, rfl, ho, hbt, hcell, htl⟩ := ints_tail hT
          have hc1 : (z :: t).length ≤ ct := by
            obtain ⟨_, _, e, q, _⟩ := hT.form
            cases e
            exact q
          have hz : 0 ≤ z := by
            by_cases hz : 0 ≤ z
            · exact hz
            · have := anyNeg_at (l := z :: t) (k := 0) (by simp) (by simpa using hz)
              rw [this] at hneg
              cases hneg
          have hcW : ∀ A B C, (((w.alloc A).alloc B).alloc C).cell? ⟨bt, off, none⟩ = some (.int .i64 z) := fun A B C => by
            rw [World.cell?_alloc_lt _ _ _ (by simp only [World.size_alloc]; omega), World.cell?_alloc_lt _ _ _ (by simp only [World.size_alloc]; omega), World.cell?_alloc_lt _ _ _ hbt]
            exact hcell
          simp only [List.length_cons] at hc1
          clear hT hG hb hneg hcell
          obtain ⟨z, rfl⟩ := Int.eq_ofNat_of_zero_le hz
          by_cases hct : ct = 1
          · subst hct
            obtain rfl : t = [] := List.length_eq_zero_iff.1 (by omega)
            have HTL : Hid (Ints ok w (.slice (some ⟨bt, off, none⟩) ([] : List Int).length 0) []) := Lib.hid (by simpa using htl)
            clear htl
            by_cases hzl : (z : Int) ≤ (l.length : Int)
            · have HE := Lib.hid (show writeOf [(z : Int)] en G false false l = ([], G ++ l.take z, false, z, 0) by
                have : min l.length z = z := by omega
                simp [writeOf, hl0, takeN, goneOf, this])
              have HLT := Lib.hid (fun w' h => ((HLK.out w' h).take rfl (show z ≤ l.length by omega) hcb hcb2))
              have hlk : (l.take z).length = z := by rw [List.length_take]; omega
              generalize l.take z = lk at *
              subst hlk
              go_enter Try.func22, Try.ntmps22
              go_wp2_with (first
                | (at_builtin; refine wpList_append_bytes_at (ok := ok) rfl _ _ rfl (w.heap.size + 3) _ G.length (G.map byteVal) rfl HO5.out _ (lk) rfl (HLT.out _ HB5.out) (by omega) (by omega) ?_; intro o2 c2 w6 hown6 hgrow6 hat6; have F6 : Frm (fun q => q < w.heap.size + 3) w5 w6 := (Frm.refl _ _).grown hgrow6 (fun q hq _ hlt => (by have := (HO5.out.lt q hq).1; omega)); have e1 := frm_block F6 (frm_block F5 a1 trivial) (by omega); have e2 := frm_block F6 (frm_block F5 a2 trivial) (by omega); have e3 := frm_block F6 (frm_block F5 a3 trivial) (by omega); obtain ⟨x0, x1, x2, x3, x4, y0, y1, y2, y3, y4⟩ := row5 e1; obtain ⟨x5, x6, x7, x8, x9, y5, y6, y7, y8, y9⟩ := row5 e2; obtain ⟨x10, x11, x12, y10, y11, y12⟩ := row3 e3)
                | (at_builtin; generalize hW : World.alloc (World.alloc (World.alloc w _) _) _ = W; obtain ⟨a1, a2, a3, a4, a5⟩ := laid3 hW; refine wpList_append_bytes_at (ok := fun q => ok q ∨ w.heap.size ≤ q) rfl _ _ rfl (w.heap.size + 3) _ 0 [] rfl (World.ownsRow_nil _ _ _ _) _ G rfl (HGK.out _ a5) (by omega) (by omega) ?_; intro o1 c1 w5 hown5 hgrow5 hat5; have F5 : Frm (fun _ => True) W w5 := (Frm.refl _ _).grown hgrow5 (fun q hq => (by cases hq)); have HO5 := Lib.hid (show w5.ownsRow (w.heap.size + 3) 5 1 (.slice o1 G.length c1) G.length (G.map byteVal) from (by simpa using hown5)); have HB5 := Lib.hid (below_frm a5 a5.size F5 (fun _ _ => trivial)); have hz5 := F5.size))
              have hB6 : Below w.heap.size w w6 := below_frm HB5.out (by omega) F6 (fun q hq => by omega)
              have hown6' : w6.ownsRow (w.heap.size + 3) 5 1 (.slice o2 (G ++ lk).length c2) (G ++ lk).length ((G ++ lk).map byteVal) := by rw [List.length_append, List.map_append]; exact hown6
              have hby6 : Bytes (fun q => w.heap.size + 3 ≤ q) w6 _ (G ++ lk) := Bytes.of_owns hown6' rfl (fun q hq _ => hq)
              refine bodyPost_ret (v := .tuple #[.agg #[.slice (some ⟨bt, off, none⟩) ([] : List Int).length (0), .int .i64 en, .slice o2 (G ++ lk).length c2, .bool false, .bool false], .agg #[.slice none 0 0, .int .i64 ((lk : List UInt8).length : Int), .int .i64 0]]) (by simp [results, Try.results22, go_sem, x5, x6, x7, x8, x9, x10, x11, x12, y5, y6, y7, y8, y9, y10, y11, y12]) rfl ?_
              rw [HE.out]
              refine ⟨_, _, _, _, rfl, HTK.out _ ?_ _ _ HTL.out, (hby6.kept (ok' := fun q => w.heap.size + 3 ≤ q) ?_ (fun q _ hq => hq)).mono (fun q _ hq => .inr (by omega)), ?_⟩
              · repeat first | (with_reducible exact hB6) | (with_reducible refine Below.setCell ?_ (by simp <;> omega) _)
              · repeat first | (with_reducible exact Frm.refl _ _) | (with_reducible refine Frm.setCell ?_ _ _ _ (fun _ h => by have h' : w.heap.size + 3 ≤ _ := h; omega))
              · repeat first | (with_reducible exact hB6) | (with_reducible refine Below.setCell ?_ (by simp <;> omega) _)
            · have HE := Lib.hid (show writeOf [(z : Int)] en G false false l = ([], G ++ l, false, l.length, 0) by
                have : min l.length z = l.length := by omega
                simp [writeOf, hl0, takeN, goneOf, this])
              go_enter Try.func22, Try.ntmps22
              go_wp2_with (first
                | (at_builtin; refine wpList_append_bytes_at (ok := ok) rfl _ _ rfl (w.heap.size + 3) _ G.length (G.map byteVal) rfl HO5.out _ (l) rfl (HLK.out _ HB5.out) (by omega) (by omega) ?_; intro o2 c2 w6 hown6 hgrow6 hat6; have F6 : Frm (fun q => q < w.heap.size + 3) w5 w6 := (Frm.refl _ _).grown hgrow6 (fun q hq _ hlt => (by have := (HO5.out.lt q hq).1; omega)); have e1 := frm_block F6 (frm_block F5 a1 trivial) (by omega); have e2 := frm_block F6 (frm_block F5 a2 trivial) (by omega); have e3 := frm_block F6 (frm_block F5 a3 trivial) (by omega); obtain ⟨x0, x1, x2, x3, x4, y0, y1, y2, y3, y4⟩ := row5 e1; obtain ⟨x5, x6, x7, x8, x9, y5, y6, y7, y8, y9⟩ := row5 e2; obtain ⟨x10, x11, x12, y10, y11, y12⟩ := row3 e3)
                | (at_builtin; generalize hW : World.alloc (World.alloc (World.alloc w _) _) _ = W; obtain ⟨a1, a2, a3, a4, a5⟩ := laid3 hW; refine wpList_append_bytes_at (ok := fun q => ok q ∨ w.heap.size ≤ q) rfl _ _ rfl (w.heap.size + 3) _ 0 [] rfl (World.ownsRow_nil _ _ _ _) _ G rfl (HGK.out _ a5) (by omega) (by omega) ?_; intro o1 c1 w5 hown5 hgrow5 hat5; have F5 : Frm (fun _ => True) W w5 := (Frm.refl _ _).grown hgrow5 (fun q hq => (by cases hq)); have HO5 := Lib.hid (show w5.ownsRow (w.heap.size + 3) 5 1 (.slice o1 G.length c1) G.length (G.map byteVal) from (by simpa using hown5)); have HB5 := Lib.hid (below_frm a5 a5.size F5 (fun _ _ => trivial)); have hz5 := F5.size))
              have hB6 : Below w.heap.size w w6 := below_frm HB5.out (by omega) F6 (fun q hq => by omega)
              have hown6' : w6.ownsRow (w.heap.size + 3) 5 1 (.slice o2 (G ++ l).length c2) (G ++ l).length ((G ++ l).map byteVal) := by rw [List.length_append, List.map_append]; exact hown6
              have hby6 : Bytes (fun q => w.heap.size + 3 ≤ q) w6 _ (G ++ l) := Bytes.of_owns hown6' rfl (fun q hq _ => hq)
              refine bodyPost_ret (v := .tuple #[.agg #[.slice (some ⟨bt, off, none⟩) ([] : List Int).length (0), .int .i64 en, .slice o2 (G ++ l).length c2, .bool false, .bool false], .agg #[.slice none 0 0, .int .i64 ((l : List UInt8).length : Int), .int .i64 0]]) (by simp [results, Try.results22, go_sem, x5, x6, x7, x8, x9, x10, x11, x12, y5, y6, y7, y8, y9, y10, y11, y12]) rfl ?_
              rw [HE.out]
              refine ⟨_, _, _, _, rfl, HTK.out _ ?_ _ _ HTL.out, (hby6.kept (ok' := fun q => w.heap.size + 3 ≤ q) ?_ (fun q _ hq => hq)).mono (fun q _ hq => .inr (by omega)), ?_⟩
              · repeat first | (with_reducible exact hB6) | (with_reducible refine Below.setCell ?_ (by simp <;> omega) _)
              · repeat first | (with_reducible exact Frm.refl _ _) | (with_reducible refine Frm.setCell ?_ _ _ _ (fun _ h => by have h' : w.heap.size + 3 ≤ _ := h; omega))
              · repeat first | (with_reducible exact hB6) | (with_reducible refine Below.setCell ?_ (by simp <;> omega) _)
          · have HTL : Hid (Ints ok w (.slice (some ⟨bt, off + 1, none⟩) t.length (ct - 1)) t) := Lib.hid (by simpa [hct] using htl)
            clear htl
            by_cases hzl : (z : Int) ≤ (l.length : Int)
            · have HE := Lib.hid (show writeOf ((z : Int) :: t) en G false false l = (t, G ++ l.take z, false, z, 0) by
                have : min l.length z = z := by omega
                simp [writeOf, hl0, takeN, goneOf, this])
              have HLT := Lib.hid (fun w' h => ((HLK.out w' h).take rfl (show z ≤ l.length by omega) hcb hcb2))
              have hlk : (l.take z).length = z := by rw [List.length_take]; omega
              generalize l.take z = lk at *
              subst hlk
              go_enter Try.func22, Try.ntmps22
              go_wp2_with (first
                | (at_builtin; refine wpList_append_bytes_at (ok := ok) rfl _ _ rfl (w.heap.size + 3) _ G.length (G.map byteVal) rfl HO5.out _ (lk) rfl (HLT.out _ HB5.out) (by omega) (by omega) ?_; intro o2 c2 w6 hown6 hgrow6 hat6; have F6 : Frm (fun q => q < w.heap.size + 3) w5 w6 := (Frm.refl _ _).grown hgrow6 (fun q hq _ hlt => (by have := (HO5.out.lt q hq).1; omega)); have e1 := frm_block F6 (frm_block F5 a1 trivial) (by omega); have e2 := frm_block F6 (frm_block F5 a2 trivial) (by omega); have e3 := frm_block F6 (frm_block F5 a3 trivial) (by omega); obtain ⟨x0, x1, x2, x3, x4, y0, y1, y2, y3, y4⟩ := row5 e1; obtain ⟨x5, x6, x7, x8, x9, y5, y6, y7, y8, y9⟩ := row5 e2; obtain ⟨x10, x11, x12, y10, y11, y12⟩ := row3 e3)
                | (at_builtin; generalize hW : World.alloc (World.alloc (World.alloc w _) _) _ = W; obtain ⟨a1, a2, a3, a4, a5⟩ := laid3 hW; refine wpList_append_bytes_at (ok := fun q => ok q ∨ w.heap.size ≤ q) rfl _ _ rfl (w.heap.size + 3) _ 0 [] rfl (World.ownsRow_nil _ _ _ _) _ G rfl (HGK.out _ a5) (by omega) (by omega) ?_; intro o1 c1 w5 hown5 hgrow5 hat5; have F5 : Frm (fun _ => True) W w5 := (Frm.refl _ _).grown hgrow5 (fun q hq => (by cases hq)); have HO5 := Lib.hid (show w5.ownsRow (w.heap.size + 3) 5 1 (.slice o1 G.length c1) G.length (G.map byteVal) from (by simpa using hown5)); have HB5 := Lib.hid (below_frm a5 a5.size F5 (fun _ _ => trivial)); have hz5 := F5.size))
              have hB6 : Below w.heap.size w w6 := below_frm HB5.out (by omega) F6 (fun q hq => by omega)
              have hown6' : w6.ownsRow (w.heap.size + 3) 5 1 (.slice o2 (G ++ lk).length c2) (G ++ lk).length ((G ++ lk).map byteVal) := by rw [List.length_append, List.map_append]; exact hown6
              have hby6 : Bytes (fun q => w.heap.size + 3 ≤ q) w6 _ (G ++ lk) := Bytes.of_owns hown6' rfl (fun q hq _ => hq)
              refine bodyPost_ret (v := .tuple #[.agg #[.slice (some ⟨bt, off + 1, none⟩) (t).length (ct - 1), .int .i64 en, .slice o2 (G ++ lk).length c2, .bool false, .bool false], .agg #[.slice none 0 0, .int .i64 ((lk : List UInt8).length : Int), .int .i64 0]]) (by simp [results, Try.results22, go_sem, x5, x6, x7, x8, x9, x10, x11, x12, y5, y6, y7, y8, y9, y10, y11, y12]) rfl ?_
              rw [HE.out]
              refine ⟨_, _, _, _, rfl, HTK.out _ ?_ _ _ HTL.out, (hby6.kept (ok' := fun q => w.heap.size + 3 ≤ q) ?_ (fun q _ hq => hq)).mono (fun q _ hq => .inr (by omega)), ?_⟩
              · repeat first | (with_reducible exact hB6) | (with_reducible refine Below.setCell ?_ (by simp <;> omega) _)
              · repeat first | (with_reducible exact Frm.refl _ _) | (with_reducible refine Frm.setCell ?_ _ _ _ (fun _ h => by have h' : w.heap.size + 3 ≤ _ := h; omega))
              · repeat first | (with_reducible exact hB6) | (with_reducible refine Below.setCell ?_ (by simp <;> omega) _)
            · have HE := Lib.hid (show writeOf ((z : Int) :: t) en G false false l = (t, G ++ l, false, l.length, 0) by
                have : min l.length z = l.length := by omega
                simp [writeOf, hl0, takeN, goneOf, this])
              go_enter Try.func22, Try.ntmps22
              go_wp2_with (first
                | (at_builtin; refine wpList_append_bytes_at (ok := ok) rfl _ _ rfl (w.heap.size + 3) _ G.length (G.map byteVal) rfl HO5.out _ (l) rfl (HLK.out _ HB5.out) (by omega) (by omega) ?_; intro o2 c2 w6 hown6 hgrow6 hat6; have F6 : Frm (fun q => q < w.heap.size + 3) w5 w6 := (Frm.refl _ _).grown hgrow6 (fun q hq _ hlt => (by have := (HO5.out.lt q hq).1; omega)); have e1 := frm_block F6 (frm_block F5 a1 trivial) (by omega); have e2 := frm_block F6 (frm_block F5 a2 trivial) (by omega); have e3 := frm_block F6 (frm_block F5 a3 trivial) (by omega); obtain ⟨x0, x1, x2, x3, x4, y0, y1, y2, y3, y4⟩ := row5 e1; obtain ⟨x5, x6, x7, x8, x9, y5, y6, y7, y8, y9⟩ := row5 e2; obtain ⟨x10, x11, x12, y10, y11, y12⟩ := row3 e3)
                | (at_builtin; generalize hW : World.alloc (World.alloc (World.alloc w _) _) _ = W; obtain ⟨a1, a2, a3, a4, a5⟩ := laid3 hW; refine wpList_append_bytes_at (ok := fun q => ok q ∨ w.heap.size ≤ q) rfl _ _ rfl (w.heap.size + 3) _ 0 [] rfl (World.ownsRow_nil _ _ _ _) _ G rfl (HGK.out _ a5) (by omega) (by omega) ?_; intro o1 c1 w5 hown5 hgrow5 hat5; have F5 : Frm (fun _ => True) W w5 := (Frm.refl _ _).grown hgrow5 (fun q hq => (by cases hq)); have HO5 := Lib.hid (show w5.ownsRow (w.heap.size + 3) 5 1 (.slice o1 G.length c1) G.length (G.map byteVal) from (by simpa using hown5)); have HB5 := Lib.hid (below_frm a5 a5.size F5 (fun _ _ => trivial)); have hz5 := F5.size))
              have hB6 : Below w.heap.size w w6 := below_frm HB5.out (by omega) F6 (fun q hq => by omega)
              have hown6' : w6.ownsRow (w.heap.size + 3) 5 1 (.slice o2 (G ++ l).length c2) (G ++ l).length ((G ++ l).map byteVal) := by rw [List.length_append, List.map_append]; exact hown6
              have hby6 : Bytes (fun q => w.heap.size + 3 ≤ q) w6 _ (G ++ l) := Bytes.of_owns hown6' rfl (fun q hq _ => hq)
              refine bodyPost_ret (v := .tuple #[.agg #[.slice (some ⟨bt, off + 1, none⟩) (t).length (ct - 1), .int .i64 en, .slice o2 (G ++ l).length c2, .bool false, .bool false], .agg #[.slice none 0 0, .int .i64 ((l : List UInt8).length : Int), .int .i64 0]]) (by simp [results, Try.results22, go_sem, x5, x6, x7, x8, x9, x10, x11, x12, y5, y6, y7, y8, y9, y10, y11, y12]) rfl ?_
              rw [HE.out]
              refine ⟨_, _, _, _, rfl, HTK.out _ ?_ _ _ HTL.out, (hby6.kept (ok' := fun q => w.heap.size + 3 ≤ q) ?_ (fun q _ hq => hq)).mono (fun q _ hq => .inr (by omega)), ?_⟩
              · repeat first | (with_reducible exact hB6) | (with_reducible refine Below.setCell ?_ (by simp <;> omega) _)
              · repeat first | (with_reducible exact Frm.refl _ _) | (with_reducible refine Frm.setCell ?_ _ _ _ (fun _ h => by have h' : w.heap.size + 3 ≤ _ := h; omega))
              · repeat first | (with_reducible exact hB6) | (with_reducible refine Below.setCell ?_ (by simp <;> omega) _)
    · have HE := Lib.hid (show writeOf T en G false true l = (T, G, true, 0, 9) from rfl)
      rw [HE.out]
      have HR := Lib.hid (fun w' h => RefWrote.still (w' := w') (en := en) (cl := false) (go := true) (n := 0) (er := 9) hT hG h)
      clear HE hT hG hb hneg
      go_enter Try.func22, Try.ntmps22
      go_wp2
      refine bodyPost_ret (v := .tuple #[.agg #[.slice ot T.length ct, .int .i64 en, .slice og G.length cg, .bool false, .bool true], .agg #[.slice none 0 0, .int .i64 0, .int .i64 9]]) (by simp [results, Try.results22, go_sem]) rfl (HR.out _ ?_)
      repeat first | exact Below.refl _ _ | apply Below.drew | (refine Below.alloc ?_ (by simp <;> omega) _) | (refine Below.setCell ?_ (by simp) _)
  · have HE := Lib.hid (show writeOf T en G true go l = (T, G, go, 0, 8) from rfl)
    rw [HE.out]
    have HR := Lib.hid (fun w' h => RefWrote.still (w' := w') (en := en) (cl := true) (go := go) (n := 0) (er := 8) hT hG h)
    clear HE hT hG hb hneg
    go_enter Try.func22, Try.ntmps22
    go_wp2
    refine bodyPost_ret (v := .tuple #[.agg #[.slice ot T.length ct, .int .i64 en, .slice og G.length cg, .bool true, .bool go], .agg #[.slice none 0 0, .int .i64 0, .int .i64 8]]) (by simp [results, Try.results22, go_sem]) rfl (HR.out _ ?_)
    repeat first | exact Below.refl _ _ | apply Below.drew | (refine Below.alloc ?_ (by simp <;> omega) _) | (refine Below.setCell ?_ (by simp) _)
end Go.Proofs.Ytellnnkgfjhmpaa
