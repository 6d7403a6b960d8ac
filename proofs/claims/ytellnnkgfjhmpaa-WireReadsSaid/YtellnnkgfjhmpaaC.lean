/-
  A source in memory; the contract of wire.NewSource.
-/
import Derived.Test.YtellnnkgfjhmpaaB
import Derived.Deep.RegionHeld3
import Derived.Deep.AppendLies
import Derived.Deep.DeepCutAuto
import Derived.Deep.RegionLaw
namespace Go.Proofs.Ytellnnkgfjhmpaa
open Go.RowKit

theorem Try.info31 : (Try.prog.info? 31).map (fun i => (i.zero, i.size, i.bytes)) = some (some (.slice none 0 0), 1, 24) := by kernel_rfl

/-- The slice v reads as pieces: its cells, and its pieces' cells, lie in blocks in 'ok'. -/
def Pieces (ok : Nat → Prop) (w : World) (v : Value) (L : List (List UInt8)) : Prop :=
  ∃ o cap, v = .slice o L.length cap ∧ L.length ≤ cap ∧ cap ≤ maxLen ∧
    (L ≠ [] → ∃ b off, o = some ⟨b, off, none⟩ ∧ ok b ∧ b < w.heap.size ∧ ∀ i, i < L.length → ∃ vi, w.cell? ⟨b, off + i, none⟩ = some vi ∧ Bytes ok w vi (L.getD i []))
theorem Pieces.kept {ok ok' : Nat → Prop} {w w' : World} {v : Value} {L : List (List UInt8)} (h : Pieces ok w v L) (hf : Frm ok' w w') (hm : ∀ k, k < w.heap.size → ok k → ok' k) : Pieces ok w' v L := by
  obtain ⟨o, cap, h1, h2, h3, h4⟩ := h
  refine ⟨o, cap, h1, h2, h3, fun hl => ?_⟩
  obtain ⟨b, off, g1, g2, g3, g4⟩ := h4 hl
  refine ⟨b, off, g1, g2, Nat.lt_of_lt_of_le g3 hf.size, fun i hi => ?_⟩
  obtain ⟨vi, q1, q2⟩ := g4 i hi
  exact ⟨vi, (hf.cell (p := ⟨b, off + i, none⟩) g3 (hm _ g3 g2)).trans q1, q2.kept hf hm⟩
theorem Pieces.mono {ok ok' : Nat → Prop} {w : World} {v : Value} {L : List (List UInt8)} (h : Pieces ok w v L) (hm : ∀ k, k < w.heap.size → ok k → ok' k) : Pieces ok' w v L := by
  obtain ⟨o, cap, h1, h2, h3, h4⟩ := h
  refine ⟨o, cap, h1, h2, h3, fun hl => ?_⟩
  obtain ⟨b, off, g1, g2, g3, g4⟩ := h4 hl
  refine ⟨b, off, g1, hm _ g3 g2, g3, fun i hi => ?_⟩
  obtain ⟨vi, q1, q2⟩ := g4 i hi
  exact ⟨vi, q1, q2.mono hm⟩

/-- A source: its struct in block b; its pieces' row in block g (where it has one); its memory M. -/
def Src (w : World) (b : Nat) (M : Nat → Prop) (g : Nat) (L : List (List UInt8)) (beg : Bool) (en rd : Int) (sh : Bool) : Prop :=
  ∃ pv, w.heap[b]? = some (.cells #[pv, .bool beg, .int .i64 en, .int .i64 rd, .bool sh] 69 (0, 0)) ∧ ¬ M b ∧
    ((pv = .slice none 0 0 ∧ L = []) ∨ ∃ off cap C, pv = .slice (some ⟨g, off, none⟩) L.length cap ∧ L.length ≤ cap ∧ cap ≤ maxLen ∧ M g ∧ w.heap[g]? = some (.cells C 31 (0, 0)) ∧
      ∀ i, i < L.length → ∃ vi, C[off + i]? = some vi ∧ Bytes (fun q => M q ∧ q ≠ g) w vi (L.getD i []))
theorem Src.kept {w w' : World} {b g : Nat} {M : Nat → Prop} {L : List (List UInt8)} {beg : Bool} {en rd : Int} {sh : Bool} {ok : Nat → Prop} (h : Src w b M g L beg en rd sh) (hf : Frm ok w w') (hb : ok b) (hm : ∀ k, M k → k < w.heap.size → ok k) : Src w' b M g L beg en rd sh := by
  obtain ⟨pv, h1, h2, h3⟩ := h
  refine ⟨pv, (hf.block b (lt_of_block h1) hb).trans h1, h2, ?_⟩
  rcases h3 with h3 | ⟨off, cap, C, g1, g2, g3, g4, g5, g6⟩
  · exact .inl h3
  · refine .inr ⟨off, cap, C, g1, g2, g3, g4, (hf.block g (lt_of_block g5) (hm g g4 (lt_of_block g5))).trans g5, fun i hi => ?_⟩
    obtain ⟨vi, q1, q2⟩ := g6 i hi
    exact ⟨vi, q1, q2.kept hf (fun k hk hq => hm k hq.1 hk)⟩

theorem row_setCell' {w : World} {b i : Nat} {cs : Array Value} {t : TypeId} {fr : Nat × Nat} {v : Value} (h : w.heap[b]? = some (.cells cs t fr)) :
    (w.setCell ⟨b, i, none⟩ v).heap[b]? = some (.cells (cs.setIfInBounds i v) t fr) := by
  have hlt := lt_of_block h
  have h' : w.heap[b] = .cells cs t fr := by simpa [Array.getElem?_eq_getElem hlt] using h
  show (w.heap.modify b _)[b]? = _
  rw [Array.getElem?_eq_getElem (by simpa using hlt), Array.getElem_modify_self, h']
  rfl
theorem owns_one {w : World} {B : Nat} {e : TypeId} {z n : Nat} {v : Value} {xs : List Value} (h : w.ownsRow B e z v n xs) : v.oneCell' = true := by
  rcases h.2 with ⟨rfl, _⟩ | ⟨g, cap, cur, rfl, _⟩ <;> rfl
theorem getD_mem {L : List (List UInt8)} {i : Nat} (h : i < L.length) : L.getD i [] ∈ L := by
  simp only [List.getD, List.getElem?_eq_getElem h, Option.getD_some]
  exact List.getElem_mem h

/-- Where NewSource stands when k pieces have been laid. -/
def Laying (w wr : World) (L : List (List UInt8)) (en : Int) (k : Nat) : Prop :=
  ∃ pv vs, wr.heap[w.heap.size + 1]? = some (.cells #[pv, .bool false, .int .i64 en, .int .i64 0, .bool false] 69 (0, 0)) ∧ wr.ownsRow (w.heap.size + 2) 31 1 pv k vs ∧
    (∀ j, j < k → ∃ vj, vs[j]? = some vj ∧ Bytes (fun q => w.heap.size + 2 ≤ q ∧ some q ≠ pv.ownBlock) wr vj (L.getD j [])) ∧ Below w.heap.size w wr
theorem Laying.src {w wr : World} {L : List (List UInt8)} {en : Int} (h : Laying w wr L en L.length) : ∃ g, (w.heap.size + 1 ≤ g ∧ g < wr.heap.size) ∧ Src wr (w.heap.size + 1) (fun q => w.heap.size + 2 ≤ q ∧ q < wr.heap.size) g L false en 0 false := by
  obtain ⟨pv, vs, h1, h2, h3, h4⟩ := h
  obtain ⟨hl, h2⟩ := h2
  rcases h2 with ⟨rfl, h0⟩ | ⟨g, cap, cur, rfl, g1, g2, g3, g4, g5, g6⟩
  · exact ⟨w.heap.size + 1, ⟨Nat.le_refl _, lt_of_block h1⟩, _, h1, fun h => by have := h.1; omega, .inl ⟨rfl, List.length_eq_zero_iff.1 h0⟩⟩
  · refine ⟨g, ⟨by omega, lt_of_block g2⟩, _, h1, fun h => by have := h.1; omega, .inr ⟨0, cap, cur, rfl, g3, g4, ⟨g1, lt_of_block g2⟩, g2, fun i hi => ?_⟩⟩
    obtain ⟨vi, q1, q2⟩ := h3 i hi
    refine ⟨vi, ?_, q2.mono (fun k hkl hk => ⟨⟨hk.1, hkl⟩, fun e => hk.2 (by simp [Value.ownBlock, e])⟩)⟩
    have e : (cur.toList.take (L.length * 1))[i]? = vs[i]? := by rw [g6]
    rw [List.getElem?_take, if_pos (by omega), q1] at e
    simpa using e

theorem below_undrew {B : Nat} {w w1 : World} (h : Below B w.drew w1) : Below B w w1 := ⟨h.os, h.tape, h.output, h.size, h.block⟩
theorem below_frm {B : Nat} {w w1 w2 : World} {ok : Nat → Prop} (h : Below B w w1) (hB : B ≤ w1.heap.size) (hf : Frm ok w1 w2) (hm : ∀ k, k < B → ok k) : Below B w w2 := h.trans (hf.below hB hm)

theorem Laying.step {w wr w5 w6 : World} {L : List (List UInt8)} {en : Int} {k gg cap' c5 : Nat} {o5 : Option Addr} {pv : Value} {vs : List Value} {l : List UInt8} {X : Obj}
    (hB : Below w.heap.size w wr) (hrow : wr.heap[w.heap.size + 1]? = some (.cells #[pv, .bool false, .int .i64 en, .int .i64 0, .bool false] 69 (0, 0)))
    (hown : wr.ownsRow (w.heap.size + 2) 31 1 pv k vs)
    (hbs : ∀ j, j < k → ∃ vj, vs[j]? = some vj ∧ Bytes (fun q => w.heap.size + 2 ≤ q ∧ some q ≠ pv.ownBlock) wr vj (L.getD j []))
    (hb5 : Below wr.heap.size wr w5) (hown5 : w5.ownsRow wr.heap.size 5 1 (.slice o5 l.length c5) l.length (l.map byteVal))
    (hown6 : w6.ownsRow (w.heap.size + 2) 31 1 (.slice (some ⟨gg, 0, none⟩) (k + 1) cap') (k + 1) (vs ++ [.slice o5 l.length c5]))
    (hgrow : (w5.alloc X).grownBy w6 pv.ownBlock) (hat : pv.ownBlock = some gg ∨ gg = w5.heap.size + 1) (hgl : L.getD k [] = l) :
    Laying w (w6.setCell ⟨w.heap.size + 1, 0, none⟩ (.slice (some ⟨gg, 0, none⟩) (k + 1) cap')) L en (k + 1) := by
  have hpv : ∀ q, pv.ownBlock = some q → w.heap.size + 2 ≤ q ∧ q < wr.heap.size := fun q hq => hown.lt q hq
  have hszw := lt_of_block hrow
  have hs5 := hb5.size
  have hvl : vs.length = k := by
    have := hown.1
    simpa using this
  have F5 : Frm (fun _ => True) wr w5 := Frm.of_below hb5 (fun q hq _ => hq)
  have F6' : Frm (fun q => some q ≠ pv.ownBlock) (w5.alloc X) w6 := (Frm.refl _ _).grown hgrow (fun q hq _ e => e hq.symm)
  have F56 : Frm (fun q => some q ≠ pv.ownBlock) w5 w6 :=
    ((Frm.refl _ _).alloc X).trans F6'
  have F6 : Frm (fun q => some q ≠ pv.ownBlock) wr w6 := (F5.mono (fun _ _ _ => trivial)).trans F56
  have h1 : w6.heap[w.heap.size + 1]? = some (.cells #[pv, .bool false, .int .i64 en, .int .i64 0, .bool false] 69 (0, 0)) :=
    (F6.block _ hszw (fun e => by have := (hpv _ e.symm).1; omega)).trans hrow
  have hg2 : w.heap.size + 2 ≤ gg := by
    rcases hat with h | h
    · exact (hpv _ h).1
    · omega
  have F7 : Frm (fun q => some q ≠ pv.ownBlock ∧ q ≠ w.heap.size + 1) wr (w6.setCell ⟨w.heap.size + 1, 0, none⟩ (.slice (some ⟨gg, 0, none⟩) (k + 1) cap')) :=
    (F6.mono (fun _ _ h => h.1)).setCell _ _ _ (fun _ h => h.2 rfl)
  have F8 : Frm (fun q => some q ≠ pv.ownBlock ∧ q ≠ w.heap.size + 1) w5 (w6.setCell ⟨w.heap.size + 1, 0, none⟩ (.slice (some ⟨gg, 0, none⟩) (k + 1) cap')) :=
    (F56.mono (fun _ _ h => h.1)).setCell _ _ _ (fun _ h => h.2 rfl)
  refine ⟨.slice (some ⟨gg, 0, none⟩) (k + 1) cap', vs ++ [.slice o5 l.length c5], row_setCell' h1, ?_, ?_, ?_⟩
  · exact ownsRow_setCell_other hown6 (by simp [Value.ownBlock]; omega) _
  · intro j hj
    by_cases hjk : j < k
    · obtain ⟨vj, q1, q2⟩ := hbs j hjk
      refine ⟨vj, by rw [List.getElem?_append_left (by omega)]; exact q1, ?_⟩
      have q3 : Bytes (fun q => w.heap.size + 2 ≤ q ∧ q ≠ gg ∧ some q ≠ pv.ownBlock) wr vj (L.getD j []) := q2.mono (fun q hq hqo => ⟨hqo.1, by
        rintro rfl
        rcases hat with h | h
        · exact hqo.2 h.symm
        · omega, hqo.2⟩)
      refine (q3.kept F7 (fun q _ hqo => ⟨hqo.2.2, by have := hqo.1; omega⟩)).mono (fun q _ hqo => ⟨hqo.1, fun e => hqo.2.1 (by simpa [Value.ownBlock] using e)⟩)
    · obtain rfl : j = k := by omega
      refine ⟨.slice o5 l.length c5, by rw [List.getElem?_append_right (by omega), hvl]; simp, ?_⟩
      rw [hgl]
      have hb : Bytes (fun q => wr.heap.size ≤ q ∧ q < w5.heap.size) w5 (.slice o5 l.length c5) l := Bytes.of_owns hown5 rfl (fun q hq hq2 => ⟨hq, hq2⟩)
      refine (hb.kept F8 (fun q _ hqo => ⟨fun e => by have := (hpv _ e.symm).2; omega, by omega⟩)).mono (fun q _ hqo => ⟨by omega, fun e => ?_⟩)
      have e : q = gg := by simpa [Value.ownBlock] using e
      subst e
      rcases hat with h | h
      · have := (hpv _ h).2; omega
      · omega
  · exact below_frm hB hB.size F7 (fun q hq => ⟨fun e => by have := (hpv _ e.symm).1; omega, by omega⟩)

set_option maxRecDepth 100000 in
set_option maxHeartbeats 4000000 in
theorem newSource_ok {ok : Nat → Prop} (v : Value) (L : List (List UInt8)) (en : Int) (w : World) (h : Pieces ok w v L) (hen0 : 0 ≤ en) (hen1 : en ≤ 2) (hL : L.length ≤ 1000) (hl : ∀ p ∈ L, p.length ≤ 1000) :
    Calls Try.prog 10 #[.agg #[v, .int .i64 en]] w fun e w' => e = .returned (.tuple #[.pointer (some ⟨w.heap.size + 1, 0, none⟩), .int .i64 0]) ∧ (∃ g, (w.heap.size + 1 ≤ g ∧ g < w'.heap.size) ∧ Src w' (w.heap.size + 1) (fun q => w.heap.size + 2 ≤ q ∧ q < w'.heap.size) g L false en 0 false) ∧ Below w.heap.size w w' := by
  obtain ⟨i0, hi, hz0, hz1, hz2⟩ := info_parts Try.info31
  obtain ⟨o, cap, rfl, _, _, h4⟩ := h
  go_enter Try.func10, Try.ntmps10
  go_wp2_with fail
  refine (right_yes en _ hen0 hen1).mono ?_
  rintro e w' ⟨rfl, rfl⟩
  go_wp2
  have hlay : Laying w ((w.alloc (.cells #[.slice o L.length cap, .int .i64 en] 30)).alloc (.cells #[.slice none 0 0, .bool false, .int .i64 en, .int .i64 0, .bool false] 69)) L en 0 :=
    ⟨_, [], by have := heap_alloc_new (w.alloc (.cells #[.slice o L.length cap, .int .i64 en] 30)) (.cells #[.slice none 0 0, .bool false, .int .i64 en, .int .i64 0, .bool false] 69); rwa [World.size_alloc] at this, World.ownsRow_nil _ _ _ _, fun j hj => by omega, ((Below.refl _ _).alloc (Nat.le_refl _) _).alloc (by simp) _⟩
  generalize (w.alloc (.cells #[.slice o L.length cap, .int .i64 en] 30)).alloc (.cells #[.slice none 0 0, .bool false, .int .i64 en, .int .i64 0, .bool false] 69) = W0 at *
  go_loopw [18] (fun i wr => ∃ k : Nat, i = .int .i64 k ∧ k ≤ L.length ∧ Laying w wr L en k) (fun i _ => L.length - (intOf i).toNat)
  case atStart => exact ⟨0, rfl, Nat.zero_le _, hlay⟩
  case round =>
    obtain ⟨k, rfl, hk, hlk⟩ := hrel
    clear hlay
    by_cases hlt : k < L.length
    · have hl0 : L ≠ [] := by intro e; rw [e] at hlt; simp at hlt
      obtain ⟨b, off, rfl, _, hbs, hc⟩ := h4 hl0
      obtain ⟨vi, hvi, hby⟩ := hc k hlt
      obtain ⟨pv, vs, hrow, hown, hbs2, hB⟩ := hlk
      have hps := hl _ (getD_mem hlt)
      have hB2 : Frm (fun q => q < w.heap.size) w wr := Frm.of_below hB (fun _ _ h => h)
      have hvi' : wr.cell? ⟨b, off + k, none⟩ = some vi := (hB.cell (p := ⟨b, off + k, none⟩) hbs).trans hvi
      have hby' := hby.kept hB2 (fun q hq _ => hq)
      have hszw := lt_of_block hrow
      have hc0 : wr.cell? ⟨w.heap.size + 1, 0, none⟩ = some pv := by simp [World.cell?, hrow]
      have hf0 : wr.frozen? ⟨w.heap.size + 1, 0, none⟩ = false := by simp [World.frozen?, hrow]
      have hS : ∀ w', Frm (fun q => q = w.heap.size + 1) wr w' → (w'.cell? ⟨w.heap.size + 1, 0, none⟩ = some pv ∧ w'.frozen? ⟨w.heap.size + 1, 0, none⟩ = false) := fun w' hf => by
        have e := (hf.block _ hszw rfl).trans hrow
        exact ⟨by simp [World.cell?, e], by simp [World.frozen?, e]⟩
      have HRW := Lib.hid hrow
      generalize hgl : L.getD k [] = l at *
      have HS := Lib.hid hS
      have HB2 := Lib.hid hbs2
      have HGL := Lib.hid hgl
      clear hc h4 hvi hby hS hbs2 hgl
      have hownlt := hown.lt
      have hpvb : ∀ q, pv.ownBlock = some q → w.heap.size + 2 ≤ q ∧ q < wr.heap.size := fun q hq => hownlt q hq
      have HPV := Lib.hid hpvb
      have HOWN := Lib.hid hown
      clear hownlt hpvb hown hrow
      go_wp2
      go_region_law
        (first
          | (go_simp; go_at_call 25; (with_reducible refine (clone_any (ok := ok) vi l _ ?_ (by omega)).mono ?_); exact hby'.kept (Frm.refl (fun _ => True) _).drew (fun _ _ _ => trivial); rintro e w5 ⟨o5, c5, rfl, hown5, hb5⟩; have F5 : Frm (fun q => q = w.heap.size + 1) wr w5 := (Frm.of_below hb5 (fun q hq _ => hq)).undrew; have hs5 := F5.size; have hs5' : w.heap.size + 1 < w5.heap.size := Nat.lt_of_lt_of_le hszw hs5; obtain ⟨hc5, hf5⟩ := HS.out _ F5; have hown5' : w5.ownsRow (w.heap.size + 2) 31 1 pv k vs := owns_frm HOWN.out ((Frm.of_below hb5 (fun q hq _ => hq)).undrew : Frm (fun _ => True) wr w5) (fun _ _ => trivial))
          | (refine step_append_lies _ (by rfl) _ _ _ (by rfl) (w.heap.size + 2) 31 i0 _ 1 24 Try.underlying22 hi hz0 hz1 hz2 rfl (by omega) pv k vs (by rfl) (hown5'.alloc _) ⟨w5.heap.size, 0, none⟩ 1 1 [.slice o5 l.length c5] (by rfl) (by rfl) (World.news_of_block (cs := #[.slice o5 l.length c5]) (t := 31) (fr := (0, 0)) (heap_alloc_new w5 _)) (by intro u hu; simp at hu; subst hu; exact owns_one hown5) (by omega) (by unfold maxLen; omega) (by omega) (by simp; omega) (w5.heap.size + 1) (by simp) ?_; intro gg cap' w6 hown6 hgrow hat hggl; have F6 : Frm (fun q => q = w.heap.size + 1) wr w6 := (F5.alloc _).grown hgrow (fun q hq _ e => by have := (HPV.out q hq).1; omega); obtain ⟨hc6, hf6⟩ := HS.out _ F6))
      all_goals
        have HST := Laying.step hB HRW.out HOWN.out HB2.out (below_undrew hb5) hown5 hown6 hgrow hat HGL.out
        clear hgrow hown6 hown5 hb5
        generalize w6.setCell { block := w.heap.size + 1, off := 0 } (Value.slice (some { block := gg, off := 0 }) (k + 1) cap') = w7 at *
        go_wp2
        go_roundw
        case rel => exact ⟨k + 1, by go_num, by omega, HST⟩
        case measure => simp [intOf]; omega
    · obtain rfl : k = L.length := by omega
      go_wp2
      go_ret2
      obtain ⟨pv, vs, q1, q2, q3, q4⟩ := hlk
      exact ⟨rfl, Laying.src ⟨pv, vs, q1, q2, q3, q4⟩, q4⟩
end Go.Proofs.Ytellnnkgfjhmpaa
