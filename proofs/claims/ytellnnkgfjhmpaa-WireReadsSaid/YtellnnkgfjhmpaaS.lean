/-
  The reference's Read.
-/
import Derived.Test.YtellnnkgfjhmpaaR
import Derived.Deep.Slices
namespace Go.Proofs.Ytellnnkgfjhmpaa
open Go.RowKit

theorem pieces_tail {ok : Nat → Prop} {w : World} {o : Option Addr} {c : Nat} {p : List UInt8} {t : List (List UInt8)} (h : Pieces ok w (.slice o (p :: t).length c) (p :: t)) :
    ∃ b off v0, o = some ⟨b, off, none⟩ ∧ ok b ∧ b < w.heap.size ∧ w.cell? ⟨b, off, none⟩ = some v0 ∧ Bytes ok w v0 p ∧ t.length + 1 ≤ c ∧ c ≤ maxLen ∧
      Pieces ok w (.slice (if c = 1 then some ⟨b, off, none⟩ else some ⟨b, off + 1, none⟩) t.length (c - 1)) t := by
  obtain ⟨o', c', e, hc, hm, h4⟩ := h
  cases e
  obtain ⟨b, off, rfl, ho, hb, hcell⟩ := h4 (by simp)
  obtain ⟨v0, hv0, hby⟩ := hcell 0 (by simp)
  simp only [List.length_cons] at hc hcell
  refine ⟨b, off, v0, rfl, ho, hb, by simpa using hv0, hby, hc, hm, ?_⟩
  by_cases h1 : c = 1
  · have ht : t = [] := List.length_eq_zero_iff.1 (by omega)
    subst ht
    rw [if_pos h1]
    exact ⟨_, _, rfl, by simp, by omega, fun h => (h rfl).elim⟩
  · rw [if_neg h1]
    refine ⟨_, _, rfl, by omega, by omega, fun _ => ⟨b, off + 1, rfl, ho, hb, fun i hi => ?_⟩⟩
    obtain ⟨vi, q1, q2⟩ := hcell (i + 1) (by omega)
    exact ⟨vi, by rw [← q1]; congr 2; show off + 1 + i = off + (i + 1); omega, by simpa using q2⟩

/-- What the reference's Read comes to. -/
def RefRead (ok : Nat → Prop) (w : World) (en rd : Int) (sh : Bool) (R : List (List UInt8) × Bool × List UInt8 × Int) (e : Ending) (w' : World) : Prop :=
  ∃ oL cL ob cb, e = .returned (.tuple #[.agg #[.slice oL R.1.length cL, .bool R.2.1, .int .i64 en, .int .i64 (rd + R.2.2.1.length), .bool sh], .agg #[.slice ob R.2.2.1.length cb, .int .i64 0, .int .i64 R.2.2.2]]) ∧
    Pieces (fun q => ok q ∨ w.heap.size ≤ q) w' (.slice oL R.1.length cL) R.1 ∧ Bytes ok w' (.slice ob R.2.2.1.length cb) R.2.2.1 ∧ Below w.heap.size w w'

set_option maxHeartbeats 1000000 in
theorem refRead_early {ok : Nat → Prop} (oL : Option Addr) (cL : Nat) (L : List (List UInt8)) (beg : Bool) (en rd n : Int) (sh : Bool) (w : World) (hP : Pieces ok w (.slice oL L.length cL) L) (h : n < 1 ∨ sh = true) :
    Calls Try.prog 14 #[.agg #[.slice oL L.length cL, .bool beg, .int .i64 en, .int .i64 rd, .bool sh], .int .i64 n] w (RefRead ok w en rd sh (L, beg, [], if n < 1 then 1 else 8)) := by
  have HR := Lib.hid (fun (w' : World) (er : Int) (h : Below w.heap.size w w') => (⟨oL, cL, none, 0, by simp, (hP.kept (Frm.of_below (ok := fun _ => True) h (fun q hq _ => hq)) (fun _ _ _ => trivial)).mono (fun _ _ h => .inl h), .inl ⟨rfl, rfl⟩, h⟩ : RefRead ok w en rd sh (L, beg, [], er) (.returned (.tuple #[.agg #[.slice oL L.length cL, .bool beg, .int .i64 en, .int .i64 rd, .bool sh], .agg #[.slice none 0 0, .int .i64 0, .int .i64 er]])) w'))
  clear hP
  by_cases hn : n < 1
  · rw [if_pos hn]
    go_enter Try.func14, Try.ntmps14
    go_wp2
    refine bodyPost_ret (v := .tuple #[.agg #[.slice oL L.length cL, .bool beg, .int .i64 en, .int .i64 rd, .bool sh], .agg #[.slice none 0 0, .int .i64 0, .int .i64 1]]) (by simp [results, Try.results14, go_sem]) rfl (HR.out _ _ ?_)
    repeat first | exact Below.refl _ _ | apply Below.drew | (refine Below.alloc ?_ (by simp <;> omega) _) | (refine Below.setCell ?_ (by simp) _)
  · rw [if_neg hn]
    obtain rfl : sh = true := by
      rcases h with h | h
      · exact (hn h).elim
      · exact h
    go_enter Try.func14, Try.ntmps14
    go_wp2
    refine bodyPost_ret (v := .tuple #[.agg #[.slice oL L.length cL, .bool beg, .int .i64 en, .int .i64 rd, .bool true], .agg #[.slice none 0 0, .int .i64 0, .int .i64 8]]) (by simp [results, Try.results14, go_sem]) rfl (HR.out _ _ ?_)
    repeat first | exact Below.refl _ _ | apply Below.drew | (refine Below.alloc ?_ (by simp <;> omega) _) | (refine Below.setCell ?_ (by simp) _)

/-- 'append(s, x...)' onto a row of the call's own where something comes out: the new value written out. -/
theorem wpList_append_rows {P : Program} {w : World} {ops : Array Oper} {rest : List Oper} {o : Oper} {a : Act} {Q : Exit → Act → World → Prop} (hgd : o.guard = none) (s x : Operand) (t : TypeId)
    (ho : o.op = .call { callee := .builtin .append, args := #[s, x], argTypes := #[t, t] })
    (base : Nat) (e : TypeId) (i : TypeInfo) (z : Value) (size bytes : Nat) (ht : P.underlying t = some (.slice e)) (hi : P.info? e = some i) (hz : i.zero = some z)
    (hsize : i.size = size) (hby : i.bytes = bytes) (hzs : z.cells.size = size) (hsz : 0 < size)
    (v : Value) (n : Nat) (xs : List Value) (hs : a.eval s = v) (hown : w.ownsRow base e size v n xs)
    (ad : Addr) (m c : Nat) (news : List Value) (hx : a.eval x = .slice (some ad) m c) (hl : news.length = m * size) (hnews : ∀ j u, news[j]? = some u → w.cell? (ad.add j) = some u) (h1 : ∀ u ∈ news, u.oneCell' = true)
    (hm : 0 < n + m) (h63 : n + m ≤ maxLen) (hbytes : (n + m) * bytes ≤ 140737488355328) (hbase : base ≤ w.heap.size)
    (h : ∀ g cap w', w'.ownsRow base e size (.slice (some ⟨g, 0, none⟩) (n + m) cap) (n + m) (xs ++ news) → w.grownBy w' v.ownBlock → wpList P ops Q rest (a.put o.dst (.slice (some ⟨g, 0, none⟩) (n + m) cap)) w') : wpList P ops Q (o :: rest) a w := by
  refine wpList_append_own_at w hgd s x t ho base e i z size bytes ht hi hz hsize hby hzs hsz v n xs hs hown ad m c news hx hl hnews h1 h63 hbytes hbase (fun v' w' h2 h3 _ _ => ?_)
  obtain ⟨g, cap, rfl, _, _⟩ := h2.form hm
  exact h g cap w' h2 h3

/-- The values in a row of pieces. -/
theorem pieces_vals {ok : Nat → Prop} {w : World} {o : Option Addr} {c : Nat} {t : List (List UInt8)} (h : Pieces ok w (.slice o t.length c) t) :
    ∃ Vs : List Value, Vs.length = t.length ∧ (∀ i, i < t.length → ∃ vi, Vs[i]? = some vi ∧ Bytes ok w vi (t.getD i [])) ∧ (∀ u ∈ Vs, u.oneCell' = true) ∧
      (t ≠ [] → ∃ b off, o = some ⟨b, off, none⟩ ∧ b < w.heap.size ∧ ∀ i u, Vs[i]? = some u → w.cell? ⟨b, off + i, none⟩ = some u) := by
  by_cases ht : t = []
  · subst ht
    exact ⟨[], rfl, fun i hi => by simp at hi, by simp, fun h => (h rfl).elim⟩
  · obtain ⟨o', c', e, _, _, h4⟩ := h
    cases e
    obtain ⟨b, off, rfl, _, hb, hc⟩ := h4 ht
    obtain ⟨f, hf⟩ := Go.Deep.choose_lt (α := Value) (p := fun i v => w.cell? ⟨b, off + i, none⟩ = some v ∧ Bytes ok w v (t.getD i [])) hc
    refine ⟨(List.range t.length).map f, by simp, fun i hi => ⟨f i, by simp [hi], (hf i hi).2⟩, fun u hu => ?_, fun _ => ⟨b, off, rfl, hb, fun i u hu => ?_⟩⟩
    · obtain ⟨i, hi, rfl⟩ := List.mem_map.1 hu
      obtain ⟨_, _, e, _⟩ := (hf i (List.mem_range.1 hi)).2.form
      rw [e]
      rfl
    · have hi : i < t.length := by
        have := (List.getElem?_eq_some_iff.1 hu).1
        simpa using this
      have e : f i = u := by simpa [hi] using hu
      rw [← e]
      exact (hf i hi).1

theorem pieces_new {ok : Nat → Prop} {w w6 W' : World} {g2 cap2 : Nat} {vd : Value} {Vs : List Value} {q : List UInt8} {t : List (List UInt8)}
    (hown : w6.ownsRow (w.heap.size + 3) 31 1 (.slice (some ⟨g2, 0, none⟩) (1 + t.length) cap2) (1 + t.length) ([vd] ++ Vs)) (hF : Frm (fun k => w.heap.size + 3 ≤ k) w6 W') (hB : Below w.heap.size w W')
    (hvd : Bytes ok w vd q) (hVs : ∀ i, i < t.length → ∃ vi, Vs[i]? = some vi ∧ Bytes ok w vi (t.getD i [])) : Pieces (fun k => ok k ∨ w.heap.size ≤ k) W' (.slice (some ⟨g2, 0, none⟩) (q :: t).length cap2) (q :: t) := by
  have hkeep : ∀ v l, Bytes ok w v l → Bytes (fun k => ok k ∨ w.heap.size ≤ k) W' v l := fun v l h => (h.kept (Frm.of_below (ok := fun _ => True) hB (fun q hq _ => hq)) (fun _ _ _ => trivial)).mono (fun _ _ h => .inl h)
  have hcells : ∀ j u, ([vd] ++ Vs)[j]? = some u → w6.cell? ((⟨g2, 0, none⟩ : Addr).add j) = some u := hown.cells (g := g2) rfl
  rcases hown.2 with ⟨e, _⟩ | ⟨g, cap, cur, e, h3, h4, h5, h6, _⟩
  · cases e
  · cases e
    have hg := lt_of_block h4
    refine ⟨_, _, rfl, by simp only [List.length_cons]; omega, h6, fun _ => ⟨g2, 0, rfl, .inr (by omega), Nat.lt_of_lt_of_le hg hF.size, fun i hi => ?_⟩⟩
    have hcell : ∀ j u, ([vd] ++ Vs)[j]? = some u → W'.cell? ⟨g2, 0 + j, none⟩ = some u := fun j u hu => by
      have := hcells j u hu
      rw [WideShapes.add_plain] at this
      exact (hF.cell (p := ⟨g2, 0 + j, none⟩) hg h3).trans this
    rcases i with _ | i
    · exact ⟨vd, hcell 0 vd rfl, by simpa using hkeep _ _ hvd⟩
    · obtain ⟨vi, q1, q2⟩ := hVs i (by simpa using hi)
      exact ⟨vi, hcell (i + 1) vi (by simpa using q1), by simpa using hkeep _ _ q2⟩

set_option maxRecDepth 100000 in
set_option maxHeartbeats 4000000 in
theorem refRead_any {ok : Nat → Prop} (oL : Option Addr) (cL : Nat) (L : List (List UInt8)) (beg : Bool) (en rd : Int) (n : Nat) (w : World) (hP : Pieces ok w (.slice oL L.length cL) L) (hn : 1 ≤ n) (hnm : n ≤ 9223372036854775807)
    (h0 : 0 ≤ en) (h2 : en ≤ 2) (hrd0 : 0 ≤ rd) (hrd : rd ≤ 1000000) (hL : L.length ≤ 1000) (hl : ∀ p ∈ L, p.length ≤ 1000) :
    Calls Try.prog 14 #[.agg #[.slice oL L.length cL, .bool beg, .int .i64 en, .int .i64 rd, .bool false], .int .i64 (n : Int)] w (RefRead ok w en rd false (readOf L beg en n)) := by
  go_enter Try.func14, Try.ntmps14
  go_wp2_with fail
  generalize hW : World.alloc (World.alloc (World.alloc w _) _) _ = W
  obtain ⟨a1, a2, a3, a4, a5⟩ := laid3 hW
  go_loopw [] (fun wr => ∃ L' beg' oL' cL', ((L' = L ∧ beg' = beg) ∨ (beg' = false ∧ L = [] :: L' ∧ beg = true)) ∧ wr.heap[w.heap.size]? = some (.cells #[.slice oL' L'.length cL', .bool beg', .int .i64 en, .int .i64 rd, .bool false] 39 (0, 0)) ∧
      wr.heap[w.heap.size + 1]? = W.heap[w.heap.size + 1]? ∧ wr.heap[w.heap.size + 1 + 1]? = W.heap[w.heap.size + 1 + 1]? ∧ wr.heap.size = w.heap.size + 3 ∧ Pieces ok w (.slice oL' L'.length cL') L' ∧ Below w.heap.size w wr)
    (fun wr => match wr.cell? ⟨w.heap.size, 1, none⟩ with | some (.bool true) => 1 | _ => 0)
  case atStart => exact ⟨L, beg, oL, cL, .inl ⟨rfl, rfl⟩, a1, rfl, rfl, a4, hP, a5⟩
  case round =>
    obtain ⟨L', beg', oL', cL', hor, hx, hx2, hx3, hz, hPr, hBr⟩ := hrel
    have HR := Lib.hid (readOf_skip hor en n)
    have HOR := Lib.hid hor
    have HKP := Lib.hid (fun w' (h : Below w.heap.size w w') v L1 (h1 : Pieces ok w v L1) => (h1.kept (Frm.of_below (ok := fun _ => True) h (fun q hq _ => hq)) (fun _ _ _ => trivial)).mono (ok' := fun q => ok q ∨ w.heap.size ≤ q) (fun _ _ h => .inl h))
    clear hor hP
    obtain ⟨x0, x1, x2, x3, x4, y0, y1, y2, y3, y4⟩ := row5 hx
    obtain ⟨x5, x6, x7, x8, x9, y5, y6, y7, y8, y9⟩ := row5 (hx2.trans a2)
    obtain ⟨x10, x11, x12, y10, y11, y12⟩ := row3 (hx3.trans a3)
    have HX := Lib.hid hx
    have HK2 := Lib.hid hx2
    have HK3 := Lib.hid hx3
    have HX2 := Lib.hid (hx2.trans a2)
    have HX3 := Lib.hid (hx3.trans a3)
    clear hx hx2 hx3 a1 a2 a3 hW
    rcases L' with _ | ⟨p, t⟩
    · have hrr : readOf [] beg' en n = ([], beg', [], endErr en) := by cases beg' <;> rfl
      have HRR := Lib.hid (HR.out.trans hrr)
      have HPR := Lib.hid hPr
      clear hPr hrr HR
      have hen : en = 0 ∨ en = 1 ∨ en = 2 := by omega
      rcases hen with rfl | rfl | rfl
      all_goals
        have hl0 : w.heap.size < wr.heap.size := by omega
        have hl1 : w.heap.size + 1 < wr.heap.size := by omega
        have hl2 : w.heap.size + 1 + 1 < wr.heap.size := by omega
        go_wp2_with fail
        go_region
        go_wp2
        refine bodyPost_ret (v := .tuple #[.agg #[.slice oL' ([] : List (List UInt8)).length cL', .bool beg', .int .i64 _, .int .i64 rd, .bool false], .agg #[.slice none 0 0, .int .i64 0, .int .i64 _]]) (by simp [results, Try.results14, go_sem, World.cell?_alloc_lt, hl1, hl2, x5, x6, x7, x8, x9, x10, x11, x12, y5, y6, y7, y8, y9, y10, y11, y12]; exact ⟨rfl, rfl⟩) rfl ?_
        rw [HRR.out]
        refine ⟨oL', cL', none, 0, by simp [endErr], HKP.out _ ?_ _ _ HPR.out, .inl ⟨rfl, rfl⟩, ?_⟩
        all_goals repeat first | (with_reducible exact hBr) | (with_reducible refine Below.setCell ?_ (by simp <;> omega) _) | (with_reducible refine Below.alloc ?_ (by simp <;> omega) _) | (with_reducible apply Below.drew)
    · obtain ⟨b, off, v0, rfl, ho, hbw, hv0, hby, hc1, hc2, htl⟩ := pieces_tail hPr
      have c0 : wr.cell? ⟨b, off, none⟩ = some v0 := (hBr.cell (p := ⟨b, off, none⟩) hbw).trans hv0
      obtain ⟨o0, n0, rfl, q1, q2, _⟩ := hby.form
      unfold maxLen at hc2 q2
      have hne : w.heap.size ≠ b := by omega
      have hne' : b ≠ w.heap.size := by omega
      have hBS := fun (i : Nat) (v : Value) => (hBr.setCell (p := ⟨w.heap.size, i, none⟩) (Nat.le_refl _) v)
      have HBS := Lib.hid hBS
      by_cases hp : p = []
      · subst hp
        have htl2 : ∃ o2 c2, ((cL' = 1 ∧ o2 = some ⟨b, off, none⟩ ∧ c2 = 0) ∨ (¬ cL' = 1 ∧ o2 = some ⟨b, off + 1, none⟩ ∧ c2 = cL' - 1)) ∧ Pieces ok w (.slice o2 t.length c2) t := by
          by_cases h1 : cL' = 1
          · exact ⟨_, _, .inl ⟨h1, rfl, rfl⟩, by simpa [h1] using htl⟩
          · exact ⟨_, _, .inr ⟨h1, rfl, rfl⟩, by simpa [h1] using htl⟩
        obtain ⟨o2, c2, hor2, hPt⟩ := htl2
        have HPT := Lib.hid hPt
        clear htl hPt hPr hby hv0 hBS
        rcases beg' with _ | _
        · have HRR := Lib.hid (HR.out.trans (show readOf ([] :: t) false en n = (t, false, [], 0) from rfl))
          rcases hor2 with ⟨rfl, rfl, rfl⟩ | ⟨hct, rfl, rfl⟩
          · obtain rfl : t = [] := List.length_eq_zero_iff.1 (by omega)
            go_wp2
            refine bodyPost_ret (v := .tuple #[.agg #[.slice (some ⟨b, off, none⟩) ([] : List (List UInt8)).length (0), .bool false, .int .i64 en, .int .i64 rd, .bool false], .agg #[.slice none 0 0, .int .i64 0, .int .i64 0]]) (by simp [results, Try.results14, go_sem, x5, x6, x7, x8, x9, x10, x11, x12, y5, y6, y7, y8, y9, y10, y11, y12]) rfl ?_
            rw [HRR.out]
            refine ⟨_, _, none, 0, by simp, HKP.out _ ?_ _ _ HPT.out, .inl ⟨rfl, rfl⟩, ?_⟩
            all_goals repeat first | (with_reducible exact hBr) | (with_reducible refine Below.setCell ?_ (by simp <;> omega) _) | (with_reducible refine Below.alloc ?_ (by simp <;> omega) _) | (with_reducible apply Below.drew)
          · skip
            go_wp2
            refine bodyPost_ret (v := .tuple #[.agg #[.slice (some ⟨b, off + 1, none⟩) (t).length (cL' - 1), .bool false, .int .i64 en, .int .i64 rd, .bool false], .agg #[.slice none 0 0, .int .i64 0, .int .i64 0]]) (by simp [results, Try.results14, go_sem, x5, x6, x7, x8, x9, x10, x11, x12, y5, y6, y7, y8, y9, y10, y11, y12]) rfl ?_
            rw [HRR.out]
            refine ⟨_, _, none, 0, by simp, HKP.out _ ?_ _ _ HPT.out, .inl ⟨rfl, rfl⟩, ?_⟩
            all_goals repeat first | (with_reducible exact hBr) | (with_reducible refine Below.setCell ?_ (by simp <;> omega) _) | (with_reducible refine Below.alloc ?_ (by simp <;> omega) _) | (with_reducible apply Below.drew)
        · have hLL : [] :: t = L ∧ beg = true := by
            rcases HOR.out with ⟨h1, h2⟩ | ⟨h1, _⟩
            · exact ⟨h1, h2.symm⟩
            · cases h1
          have HLL := Lib.hid hLL
          clear hLL
          have hm : wr.cell? ⟨w.heap.size, 1, none⟩ = some (.bool true) := x1
          rcases hor2 with ⟨rfl, rfl, rfl⟩ | ⟨hct, rfl, rfl⟩
          · obtain rfl : t = [] := List.length_eq_zero_iff.1 (by omega)
            have hrow := row_setCell' (i := 1) (v := .bool false) (row_setCell' (i := 0) (v := .slice (some ⟨b, off, none⟩) ([] : List (List UInt8)).length (0)) HX.out)
            have HROW := Lib.hid (show ((wr.setCell ⟨w.heap.size, 0, none⟩ (.slice (some ⟨b, off, none⟩) ([] : List (List UInt8)).length (0))).setCell ⟨w.heap.size, 1, none⟩ (.bool false)).heap[w.heap.size]? = some (.cells #[.slice (some ⟨b, off, none⟩) ([] : List (List UInt8)).length (0), .bool false, .int .i64 en, .int .i64 rd, .bool false] 39 (0, 0)) from hrow)
            have HCM := Lib.hid (row5 HROW.out).2.1
            clear hrow
            go_wp2
            go_roundw
            case rel => exact ⟨([] : List (List UInt8)), false, _, _, .inr ⟨rfl, HLL.out.1.symm, HLL.out.2⟩, HROW.out, (Below.heap_setCell _ _ _ _ (by simp)).trans ((Below.heap_setCell _ _ _ _ (by simp)).trans HK2.out), (Below.heap_setCell _ _ _ _ (by simp only; omega)).trans ((Below.heap_setCell _ _ _ _ (by simp only; omega)).trans HK3.out), by simp only [World.size_setCell]; exact hz, HPT.out, (hBr.setCell (Nat.le_refl _) _).setCell (Nat.le_refl _) _⟩
            case measure =>
              have e := HCM.out
              try simp only [List.length_nil] at e
              rw [e, hm]
              decide
          · skip
            have hrow := row_setCell' (i := 1) (v := .bool false) (row_setCell' (i := 0) (v := .slice (some ⟨b, off + 1, none⟩) (t).length (cL' - 1)) HX.out)
            have HROW := Lib.hid (show ((wr.setCell ⟨w.heap.size, 0, none⟩ (.slice (some ⟨b, off + 1, none⟩) (t).length (cL' - 1))).setCell ⟨w.heap.size, 1, none⟩ (.bool false)).heap[w.heap.size]? = some (.cells #[.slice (some ⟨b, off + 1, none⟩) (t).length (cL' - 1), .bool false, .int .i64 en, .int .i64 rd, .bool false] 39 (0, 0)) from hrow)
            have HCM := Lib.hid (row5 HROW.out).2.1
            clear hrow
            go_wp2
            go_roundw
            case rel => exact ⟨t, false, _, _, .inr ⟨rfl, HLL.out.1.symm, HLL.out.2⟩, HROW.out, (Below.heap_setCell _ _ _ _ (by simp)).trans ((Below.heap_setCell _ _ _ _ (by simp)).trans HK2.out), (Below.heap_setCell _ _ _ _ (by simp only; omega)).trans ((Below.heap_setCell _ _ _ _ (by simp only; omega)).trans HK3.out), by simp only [World.size_setCell]; exact hz, HPT.out, (hBr.setCell (Nat.le_refl _) _).setCell (Nat.le_refl _) _⟩
            case measure =>
              have e := HCM.out
              try simp only [List.length_nil] at e
              rw [e, hm]
              decide
      · have hm1 : 1 ≤ p.length := by cases p with | nil => exact (hp rfl).elim | cons _ _ => simp
        have hpl : p.length ≤ 1000 := by
          rcases HOR.out with ⟨e, _⟩ | ⟨_, e, _⟩
          · exact hl p (e ▸ List.mem_cons_self)
          · exact hl p (e ▸ List.mem_cons_of_mem _ List.mem_cons_self)
        have htn : t.length ≤ 1000 := by
          rcases HOR.out with ⟨e, _⟩ | ⟨_, e, _⟩
          · rw [← e] at hL; simp at hL; omega
          · rw [e] at hL; simp at hL; omega
        have HRR := Lib.hid (HR.out.trans (show readOf (p :: t) beg' en n = (p.drop n :: t, true, p.take n, 0) by
          cases p with
          | nil => exact (hp rfl).elim
          | cons a q => cases beg' <;> rfl))
        have HTL := Lib.hid htl
        have HBY := Lib.hid hby
        have HPC := Lib.hid hPr
        clear htl hPr hby hv0 hBS hp
        generalize hpm : p.length = m at *
        have hzl : w.heap.size + 3 ≤ wr.heap.size := by omega
        have HZ := Lib.hid hz
        clear hz
        obtain ⟨i0, hi, hz0, hz1, hz2⟩ := info_parts Try.info31
        obtain ⟨off2, ho2⟩ : ∃ off2, (if cL' = 1 then some (⟨b, off, none⟩ : Addr) else some ⟨b, off + 1, none⟩) = some ⟨b, off2, none⟩ := by
          split
          · exact ⟨_, rfl⟩
          · exact ⟨_, rfl⟩
        have hPt := HTL.out
        rw [ho2] at hPt
        obtain ⟨Vs, hV1, hV2, hV3, hV4⟩ := pieces_vals hPt
        have HV := Lib.hid (And.intro hV1 (And.intro hV2 (And.intro hV3 hV4)))
        have HN := Lib.hid (fun (w' : World) (hB : Below w.heap.size w w') (j : Nat) (u : Value) (hu : Vs[j]? = some u) => (show w'.cell? ((⟨b, off2, none⟩ : Addr).add j) = some u by
          have hj : j < t.length := by
            have := (List.getElem?_eq_some_iff.1 hu).1
            omega
          obtain ⟨b', off', e, hb', hcc⟩ := hV4 (by intro e; rw [e] at hj; simp at hj)
          cases e
          rw [WideShapes.add_plain]
          exact (hB.cell (p := ⟨b, off2 + j, none⟩) hb').trans (hcc j u hu)))
        clear hPt hV1 hV2 hV3 hV4
        by_cases hnm2 : n ≤ m
        · obtain ⟨vo, hvo⟩ : ∃ vo, (if n0 = n then o0 else o0.map (fun x => x.add n)) = vo := ⟨_, rfl⟩
          have HVD := Lib.hid (HBY.out.drop hpm hnm2 q1 (by unfold maxLen; omega) hm1)
          go_wp2_with (first
            | (at_builtin; (refine wpList_append_rows rfl _ _ 22 rfl (w.heap.size + 3) 31 i0 _ 1 24 Try.underlying22 hi hz0 hz1 hz2 rfl (by omega) _ 1 _ rfl HO5.out ⟨b, off2, none⟩ t.length (cL' - 1) Vs rfl (by rw [HV.out.1]; simp) (HN.out _ B5) HV.out.2.2.1 (by omega) (by unfold maxLen; omega) (by omega) (by omega) ?_; intro g2 cap2 w6 hown6 hgrow6; have F6 : Frm (fun q => q < w.heap.size + 3) w5 w6 := (Frm.refl _ _).grown hgrow6 (fun q hq _ hlt => (by have := (HO5.out.lt q hq).1; omega)); obtain ⟨x0, x1, x2, x3, x4, y0, y1, y2, y3, y4⟩ := row5 (frm_block F6 (frm_block F5 HX.out trivial) (by omega)); obtain ⟨x5, x6, x7, x8, x9, y5, y6, y7, y8, y9⟩ := row5 (frm_block F6 (frm_block F5 HX2.out trivial) (by omega)); obtain ⟨x10, x11, x12, y10, y11, y12⟩ := row3 (frm_block F6 (frm_block F5 HX3.out trivial) (by omega)); have HO6 := Lib.hid hown6; have B6 := below_frm B5 B5.size F6 (fun q hq => (by omega)); have hz6 := F6.size))
            | (at_builtin; (refine wpList_append_rows rfl _ _ 22 rfl (w.heap.size + 3) 31 i0 _ 1 24 Try.underlying22 hi hz0 hz1 hz2 rfl (by omega) (.slice none 0 0) 0 [] rfl (World.ownsRow_nil _ _ _ _) ⟨wr.heap.size, 0, none⟩ 1 1 [.slice vo (m - n) (n0 - n)] rfl rfl (World.news_of_block (cs := #[.slice vo (m - n) (n0 - n)]) (t := 31) (fr := (0, 0)) (heap_alloc_new wr (.cells #[.slice vo (m - n) (n0 - n)] 31))) (by intro u hu; simp at hu; subst hu; rfl) (by omega) (by unfold maxLen; omega) (by omega) (by simp; omega) ?_; intro g1 cap1 w5 hown5 hgrow5; have F5 : Frm (fun _ => True) wr w5 := ((Frm.refl _ _).alloc _).grown hgrow5 (fun q hq => (by cases hq)); obtain ⟨x0, x1, x2, x3, x4, y0, y1, y2, y3, y4⟩ := row5 (frm_block F5 HX.out trivial); have HO5 := Lib.hid (show w5.ownsRow (w.heap.size + 3) 31 1 (.slice (some ⟨g1, 0, none⟩) 1 cap1) 1 [.slice vo (m - n) (n0 - n)] from (by simpa using hown5)); have hz5 := F5.size; have B5 := below_frm hBr hBr.size F5 (fun _ _ => trivial)))
          )
          have hTn : (p.take n).length = n := by rw [List.length_take]; omega
          have HTN := Lib.hid hTn
          have HBK := Lib.hid (fun (w' : World) (h : Below w.heap.size w w') => (show Bytes ok w' (.slice o0 (p.take n).length n0) (p.take n) by
            rw [hTn]
            exact (HBY.out.take hpm hnm2 q1 (by unfold maxLen; omega)).kept (Frm.of_below (ok := fun _ => True) h (fun q hq _ => hq)) (fun _ _ _ => trivial)))
          clear hTn
          go_region
          go_wp2
          refine bodyPost_ret (v := .tuple #[.agg #[.slice (some ⟨g2, 0, none⟩) (p.drop n :: t).length cap2, .bool true, .int .i64 en, .int .i64 (rd + (n : Int)), .bool false], .agg #[.slice o0 n n0, .int .i64 0, .int .i64 0]]) (by simp [results, Try.results14, go_sem, Nat.add_comm 1, x5, x6, x7, x8, x9, x10, x11, x12, y5, y6, y7, y8, y9, y10, y11, y12]) rfl ?_
          rw [HRR.out]
          refine ⟨some ⟨g2, 0, none⟩, cap2, o0, n0, by simp only [HTN.out], pieces_new HO6.out ?_ ?_ (by rw [← hvo]; exact HVD.out) HV.out.2.1, HBK.out _ ?_, ?_⟩
          · repeat first | (with_reducible exact Frm.refl _ _) | (with_reducible refine Frm.setCell ?_ _ _ _ (fun _ h => by have h' : w.heap.size + 3 ≤ _ := h; omega)) | (with_reducible apply Frm.drew)
          all_goals repeat first | (with_reducible exact B6) | (with_reducible refine Below.setCell ?_ (by simp <;> omega) _) | (with_reducible refine Below.alloc ?_ (by simp <;> omega) _) | (with_reducible apply Below.drew)
        · obtain ⟨vo, hvo⟩ : ∃ vo, (if n0 = m then o0 else o0.map (fun x => x.add m)) = vo := ⟨_, rfl⟩
          have HRR2 := Lib.hid (HRR.out.trans (show (p.drop n :: t, true, p.take n, (0 : Int)) = (p.drop m :: t, true, p.take m, 0) by
            rw [List.take_of_length_le (by omega), List.take_of_length_le (by omega), List.drop_of_length_le (by omega), List.drop_of_length_le (by omega)]))
          have HVD := Lib.hid (HBY.out.drop hpm (Nat.le_refl m) q1 (by unfold maxLen; omega) hm1)
          go_wp2_with (first
            | (at_builtin; (refine wpList_append_rows rfl _ _ 22 rfl (w.heap.size + 3) 31 i0 _ 1 24 Try.underlying22 hi hz0 hz1 hz2 rfl (by omega) _ 1 _ rfl HO5.out ⟨b, off2, none⟩ t.length (cL' - 1) Vs rfl (by rw [HV.out.1]; simp) (HN.out _ B5) HV.out.2.2.1 (by omega) (by unfold maxLen; omega) (by omega) (by omega) ?_; intro g2 cap2 w6 hown6 hgrow6; have F6 : Frm (fun q => q < w.heap.size + 3) w5 w6 := (Frm.refl _ _).grown hgrow6 (fun q hq _ hlt => (by have := (HO5.out.lt q hq).1; omega)); obtain ⟨x0, x1, x2, x3, x4, y0, y1, y2, y3, y4⟩ := row5 (frm_block F6 (frm_block F5 HX.out trivial) (by omega)); obtain ⟨x5, x6, x7, x8, x9, y5, y6, y7, y8, y9⟩ := row5 (frm_block F6 (frm_block F5 HX2.out trivial) (by omega)); obtain ⟨x10, x11, x12, y10, y11, y12⟩ := row3 (frm_block F6 (frm_block F5 HX3.out trivial) (by omega)); have HO6 := Lib.hid hown6; have B6 := below_frm B5 B5.size F6 (fun q hq => (by omega)); have hz6 := F6.size))
            | (at_builtin; (refine wpList_append_rows rfl _ _ 22 rfl (w.heap.size + 3) 31 i0 _ 1 24 Try.underlying22 hi hz0 hz1 hz2 rfl (by omega) (.slice none 0 0) 0 [] rfl (World.ownsRow_nil _ _ _ _) ⟨wr.heap.size, 0, none⟩ 1 1 [.slice vo 0 (n0 - m)] rfl rfl (World.news_of_block (cs := #[.slice vo 0 (n0 - m)]) (t := 31) (fr := (0, 0)) (heap_alloc_new wr (.cells #[.slice vo 0 (n0 - m)] 31))) (by intro u hu; simp at hu; subst hu; rfl) (by omega) (by unfold maxLen; omega) (by omega) (by simp; omega) ?_; intro g1 cap1 w5 hown5 hgrow5; have F5 : Frm (fun _ => True) wr w5 := ((Frm.refl _ _).alloc _).grown hgrow5 (fun q hq => (by cases hq)); obtain ⟨x0, x1, x2, x3, x4, y0, y1, y2, y3, y4⟩ := row5 (frm_block F5 HX.out trivial); have HO5 := Lib.hid (show w5.ownsRow (w.heap.size + 3) 31 1 (.slice (some ⟨g1, 0, none⟩) 1 cap1) 1 [.slice vo 0 (n0 - m)] from (by simpa using hown5)); have hz5 := F5.size; have B5 := below_frm hBr hBr.size F5 (fun _ _ => trivial)))
          )
          have hTn : (p.take m).length = m := by rw [List.length_take]; omega
          have HTN := Lib.hid hTn
          have HBK := Lib.hid (fun (w' : World) (h : Below w.heap.size w w') => (show Bytes ok w' (.slice o0 (p.take m).length n0) (p.take m) by
            rw [hTn]
            exact (HBY.out.take hpm (Nat.le_refl m) q1 (by unfold maxLen; omega)).kept (Frm.of_below (ok := fun _ => True) h (fun q hq _ => hq)) (fun _ _ _ => trivial)))
          clear hTn
          go_region
          go_wp2
          refine bodyPost_ret (v := .tuple #[.agg #[.slice (some ⟨g2, 0, none⟩) (p.drop m :: t).length cap2, .bool true, .int .i64 en, .int .i64 (rd + (m : Int)), .bool false], .agg #[.slice o0 m n0, .int .i64 0, .int .i64 0]]) (by simp [results, Try.results14, go_sem, Nat.add_comm 1, x5, x6, x7, x8, x9, x10, x11, x12, y5, y6, y7, y8, y9, y10, y11, y12]) rfl ?_
          rw [HRR2.out]
          refine ⟨some ⟨g2, 0, none⟩, cap2, o0, n0, by simp only [HTN.out], pieces_new HO6.out ?_ ?_ (by rw [← hvo]; have e := HVD.out; rwa [Nat.sub_self] at e) HV.out.2.1, HBK.out _ ?_, ?_⟩
          · repeat first | (with_reducible exact Frm.refl _ _) | (with_reducible refine Frm.setCell ?_ _ _ _ (fun _ h => by have h' : w.heap.size + 3 ≤ _ := h; omega)) | (with_reducible apply Frm.drew)
          all_goals repeat first | (with_reducible exact B6) | (with_reducible refine Below.setCell ?_ (by simp <;> omega) _) | (with_reducible refine Below.alloc ?_ (by simp <;> omega) _) | (with_reducible apply Below.drew)
end Go.Proofs.Ytellnnkgfjhmpaa
