/-
  The walk of WireCounts.
-/
import Derived.Test.YtellnnkgfjhmpaaJ
namespace Go.Proofs.Ytellnnkgfjhmpaa
open Go.RowKit

theorem anyNeg_tail {T : List Int} (h : anyNeg T = false) : anyNeg T.tail = false := by
  cases T with
  | nil => rfl
  | cons z t => simp [anyNeg] at h ⊢; exact h.2
theorem writeOf_free (T : List Int) (G l : List UInt8) (hT : anyNeg T = false) :
    (writeOf T 1 G false false l).2.2.2.2 = 0 ∧ (writeOf T 1 G false false l).2.2.1 = false ∧ (writeOf T 1 G false false l).2.1 = G ++ l.take (writeOf T 1 G false false l).2.2.2.1 ∧
      (writeOf T 1 G false false l).2.2.2.1 ≤ l.length ∧ anyNeg (writeOf T 1 G false false l).1 = false := by
  by_cases hl : l = []
  · subst hl
    exact ⟨rfl, rfl, by simp [writeOf], by simp [writeOf], hT⟩
  · have hg : goneOf T 1 false = false := by simp [goneOf]
    have e : writeOf T 1 G false false l = (T.tail, G ++ l.take (takeN T 1 l.length), false, takeN T 1 l.length, 0) := by simp [writeOf, hl, hg]
    rw [e]
    exact ⟨rfl, rfl, rfl, takeN_le _ _ _, anyNeg_tail hT⟩

set_option maxRecDepth 100000 in
set_option maxHeartbeats 4000000 in
theorem wireCounts_any (v0 v : Value) (T : List Int) (L : List (List UInt8)) (w : World) (hI : Ints (fun _ => True) w v0 T) (h : Pieces (fun _ => True) w v L) (hTl : T.length ≤ 140737488355328) (hl : ∀ p ∈ L, p.length ≤ 140737488355328) :
    Calls Try.prog 6 #[v0, v] w fun e w' => e = .returned (.bool true) ∧ Below w.heap.size w w' := by
  obtain ⟨o0, cap0, rfl, hd1, hd2, _⟩ := hI.form
  have hk := h
  obtain ⟨o, cap, rfl, hc1, hc2, h4⟩ := hk
  have H4 := Lib.hid h4
  unfold maxLen at hc2 hd2
  clear h4
  go_enter Try.func6, Try.ntmps6
  go_wp2_with fail
  refine (wakes_any _).mono ?_
  rintro e w1 ⟨rfl, hB1⟩
  have P1 := h.kept (Frm.of_below (ok := fun _ => True) hB1 (fun q hq _ => hq)) (fun _ _ _ => trivial)
  have I1 := hI.kept (Frm.of_below (ok := fun _ => True) hB1 (fun q hq _ => hq)) (fun _ _ _ => trivial)
  go_wp2_with fail
  refine (great_any _ L w1 P1 hl).mono ?_
  rintro e w2 ⟨B, rfl, hT, hB2⟩
  have I2 := I1.kept (Frm.of_below (ok := fun _ => True) hB2 (fun q hq _ => hq)) (fun _ _ _ => trivial)
  have hB12 := hB1.trans (hB2.mono hB1.size)
  clear P1 I1 hB1 hB2
  rcases B with _ | _
  · have hT' := hT rfl
    have hLp : ∀ p ∈ L, p.length ≤ 600 := fun p hp => by have := tot_mem hp; omega
    have hTT := Lib.hid hT'
    have HLP := Lib.hid hLp
    clear hT hT' hl hLp
    by_cases hlen : T.length ≤ 100
    · go_wp2_with fail
      refine (refRight_any _ T 1 w2 I2 (by omega)).mono ?_
      rintro e w3 ⟨rfl, hB3⟩
      rcases hneg : anyNeg T with _ | _
      · have I3 := I2.kept (Frm.of_below (ok := fun _ => True) hB3 (fun q hq _ => hq)) (fun _ _ _ => trivial)
        have hB13 := hB12.trans (hB3.mono hB12.size)
        clear I2 hB12 hB3
        go_wp2_with fail
        refine (newDrain_ok _ T 1 w3 I3 (by omega) hneg (by decide) (by decide)).mono ?_
        rintro e w4 ⟨b, rfl, ⟨hb1, hb2⟩, hd, hB4⟩
        have hB14 := hB13.trans (hB4.mono hB13.size)
        have hz13 := hB13.size
        have hz4 := hB4.size
        have HD4 := Lib.hid hd
        clear I3 hB13 hB4 hd
        go_wp2_with fail
        go_loopw [7, 40] (fun al i wr => ∃ k oa ca Tk gv, ∃ G : List UInt8, i = .int .i64 (k : Nat) ∧ al = .slice oa G.length ca ∧ k ≤ L.length ∧ G.length ≤ tot (L.take k) ∧ anyNeg Tk = false ∧
            wr.ownsRow w4.heap.size 5 1 (.slice oa G.length ca) G.length (G.map byteVal) ∧ Drn wr b w4.heap.size (fun q => w3.heap.size ≤ q ∧ q < w4.heap.size) gv Tk 1 G false false ∧
            (∀ q, gv.ownBlock = some q → (Value.slice oa G.length ca).ownBlock ≠ some q) ∧ Below w.heap.size w wr ∧ w4.heap.size ≤ wr.heap.size) (fun _ i _ => L.length - (intOf i).toNat)
        case atStart => exact ⟨0, none, 0, T, _, [], rfl, rfl, Nat.zero_le _, by simp, hneg, World.ownsRow_nil _ _ _ _, HD4.out, by simp [Value.ownBlock], hB14, Nat.le_refl _⟩
        case round =>
          obtain ⟨k, oa, ca, Tk, gv, G, rfl, rfl, hk, hGl, hng, hown, hd, hne, hbr, hzr⟩ := hrel
          by_cases hlt : k < L.length
          · have hl0 : L ≠ [] := by intro e; rw [e] at hlt; simp at hlt
            obtain ⟨bb, off, rfl, _, hbs, hc⟩ := H4.out hl0
            obtain ⟨vi, hvi, hby⟩ := hc k hlt
            have hvi' : wr.cell? ⟨bb, off + k, none⟩ = some vi := (hbr.cell (p := ⟨bb, off + k, none⟩) hbs).trans hvi
            have hby2 : Bytes (fun q => q < w.heap.size) wr vi (L.getD k []) := (hby.mono (ok' := fun q => q < w.heap.size) (fun q hq _ => hq)).kept (Frm.of_below (ok := fun q => q < w.heap.size) hbr (fun q _ hq => hq)) (fun _ _ hq => hq)
            obtain ⟨ov, cv, rfl, hcv, hcv2, _⟩ := hby2.form
            have HST := Lib.hid (tot_take hlt)
            have htl := tot_take_le L k
            have hpl := HLP.out _ (getD_mem hlt)
            have htt := hTT.out
            have hwr := write_any b w4.heap.size _ gv Tk 1 G false false _ _ wr hd hng (by decide) (by decide) hby2 (by omega) (by omega) (fun h => h rfl) (fun q hq => by omega) hzr
            have hwf := writeOf_free Tk G (L.getD k []) hng
            generalize writeOf Tk 1 G false false (L.getD k []) = R at hwr hwf
            obtain ⟨T', G', go', n', er⟩ := R
            dsimp only at hwr hwf
            obtain ⟨rfl, rfl, rfl, hn', hng'⟩ := hwf
            generalize tot (L.take k) = S at *
            generalize L.getD k [] = l at *
            have HBY := Lib.hid hby2
            have HOW := Lib.hid hown
            have HD := Lib.hid hd
            clear hc hvi hby hby2 hown hd
            go_wp2_with fail
            refine hwr.mono ?_
            rintro e w5 ⟨gv', rfl, hd5, hat5, hf5⟩
            have hgv : ∀ q, gv.ownBlock = some q → w4.heap.size ≤ q ∧ q < wr.heap.size := by
              obtain ⟨_, _, _, h3, _⟩ := HD.out
              exact fun q hq => h3.lt q hq
            have hgv' : ∀ q, gv'.ownBlock = some q → q < w5.heap.size := by
              obtain ⟨_, _, _, h3, _⟩ := hd5
              exact fun q hq => (h3.lt q hq).2
            have hav := HOW.out.lt
            have hz5 := hf5.size
            have hbt := (HBY.out.take rfl hn' hcv hcv2).kept hf5 (fun q _ hq => ⟨by omega, fun e => by have := hgv q e.symm; omega⟩)
            have hlk : (l.take n').length = n' := by rw [List.length_take]; omega
            have hown5 := owns_frm HOW.out hf5 (fun q hq => ⟨by have := hav q hq; omega, fun e => hne q e.symm hq⟩)
            have hb5 := below_frm hbr (by omega) hf5 (fun q hq => ⟨by omega, fun e => by have := hgv q e.symm; omega⟩)
            generalize l.take n' = lk at *
            subst hlk
            have HBT := Lib.hid hbt
            have HO5 := Lib.hid hown5
            have HD5 := Lib.hid hd5
            have HGV := Lib.hid hgv'
            have HAV := Lib.hid hav
            have HNE := Lib.hid hne
            have HAT := Lib.hid hat5
            have hkv : lk.length ≤ cv := by omega
            clear hbt hown5 hd5 hgv' hav hne hat5 hwr hgv
            go_wp2_with (at_builtin; refine wpList_append_bytes_at (ok := fun q => q < w.heap.size) rfl _ _ rfl w4.heap.size _ G.length (G.map byteVal) rfl HO5.out _ lk rfl HBT.out (by omega) (by omega) ?_; intro oa' ca' w6 hown6 hgrow6 hat6)
            have F6 : Frm (fun q => some q ≠ (Value.slice oa G.length ca).ownBlock) w5 w6 := (Frm.refl _ _).grown hgrow6 (fun q hq _ e => e hq.symm)
            have hd6 := HD5.out.kept F6 (fun e => by have := HAV.out b e.symm; omega) (fun q hq _ e => by have := HAV.out q e.symm; omega) (fun q hq e => by
              rcases HAT.out with e2 | ⟨k2, hk2, e2⟩
              · exact HNE.out q (by rw [← e2, hq]) e.symm
              · rw [e2] at hq
                cases hq
                have := HAV.out _ e.symm
                omega)
            have hne6 : ∀ q, gv'.ownBlock = some q → (Value.slice oa' (G.length + lk.length) ca').ownBlock ≠ some q := by
              intro q hq e
              rcases hat6 with e6 | e6
              · rw [e6] at e
                rcases HAT.out with e2 | ⟨k2, hk2, e2⟩
                · exact HNE.out q (by rw [← e2, hq]) e
                · rw [e2] at hq
                  cases hq
                  have := HAV.out _ e
                  omega
              · rw [e6] at e
                cases e
                have := HGV.out _ hq
                omega
            have hb6 := below_frm hb5 (by omega) F6 (fun q hq e => by have := HAV.out q e.symm; omega)
            have hz6 := F6.size
            go_roundw
            case rel => exact ⟨k + 1, oa', ca', T', gv', G ++ lk, by go_num, by rw [List.length_append], by omega, by rw [HST.out, List.length_append]; omega, hng', by rw [List.length_append, List.map_append]; exact hown6, hd6, by rw [List.length_append]; exact hne6, hb6, by omega⟩
            case measure => simp [intOf]; omega
          · obtain rfl : k = L.length := by omega
            rw [List.take_length] at hGl
            have htt := hTT.out
            have hbo := Bytes.of_owns (ok := fun _ => True) hown rfl (fun _ _ _ => trivial)
            have HBO := Lib.hid hbo
            have HG := got_any _ _ _ _ _ _ _ _ _ wr hd (by omega)
            clear hown hbo hd hne
            go_wp2_with fail
            refine HG.mono ?_
            rintro e w5 ⟨o5, c5, rfl, hown5, hb5⟩
            have hx := Bytes.of_owns (ok := fun _ => True) hown5 rfl (fun _ _ _ => trivial)
            have hy := HBO.out.kept (Frm.of_below (ok := fun _ => True) hb5 (fun q hq _ => hq)) (fun _ _ _ => trivial)
            clear hown5
            go_wp2_with fail
            refine (same_any _ _ G w5 hx hy (by omega)).mono ?_
            rintro e w6 ⟨rfl, hb6⟩
            go_wp2
            go_ret
            exact ⟨rfl, (hbr.trans (hb5.mono hbr.size)).trans (hb6.mono (Nat.le_trans hbr.size hb5.size))⟩
      · clear I2
        go_wp2
        go_ret
        exact ⟨rfl, hB12.trans (hB3.mono hB12.size)⟩
    · go_wp2
      go_ret
      exact ⟨rfl, hB12⟩
  · go_wp2
    go_ret
    exact ⟨rfl, hB12⟩
end Go.Proofs.Ytellnnkgfjhmpaa
