/-
  The contracts of wire's Drain.next and Drain.Write.
-/
import Derived.Test.YtellnnkgfjhmpaaH
namespace Go.Proofs.Ytellnnkgfjhmpaa
open Go.RowKit

/-- How many of n bytes are taken now. -/
def takeN (T : List Int) (en : Int) (n : Nat) : Nat := match T with | z :: _ => min n z.toNat | [] => if en = 1 then n else 0
/-- Is it gone then? -/
def goneOf (T : List Int) (en : Int) (go : Bool) : Bool := go || (T.isEmpty && decide (en = 2))

theorem takeN_le (T : List Int) (en : Int) (n : Nat) : takeN T en n ≤ n := by
  unfold takeN
  rcases T with _ | ⟨z, t⟩
  · simp only; split <;> omega
  · simp only; omega

theorem ints_tail {ok : Nat → Prop} {w : World} {o : Option Addr} {c : Nat} {z : Int} {t : List Int} (h : Ints ok w (.slice o (z :: t).length c) (z :: t)) :
    ∃ bt off, o = some ⟨bt, off, none⟩ ∧ ok bt ∧ bt < w.heap.size ∧ w.cell? ⟨bt, off, none⟩ = some (.int .i64 z) ∧ Ints ok w (.slice (if c = 1 then some ⟨bt, off, none⟩ else some ⟨bt, off + 1, none⟩) t.length (c - 1)) t := by
  obtain ⟨o', c', e, hc, hm, h4⟩ := h.form
  cases e
  obtain ⟨bt, off, rfl, ho, hb, hcell⟩ := h4 (by simp)
  simp only [List.length_cons] at hc hcell
  refine ⟨bt, off, rfl, ho, hb, by simpa using hcell 0 (by omega), ?_⟩
  by_cases h1 : c = 1
  · have ht : t = [] := List.length_eq_zero_iff.1 (by omega)
    subst ht
    rw [if_pos h1]
    exact .inr ⟨_, _, rfl, by simp, by omega, fun h => (h rfl).elim⟩
  · rw [if_neg h1]
    refine .inr ⟨_, _, rfl, by omega, by omega, fun _ => ⟨rfl, ho, hb, fun i hi => ?_⟩⟩
    have := hcell (i + 1) (by omega)
    simp only [List.getD_cons_succ] at this
    rw [← this]
    congr 2
    show off + 1 + i = off + (i + 1)
    omega

theorem Drn.next {w : World} {b base : Nat} {M : Nat → Prop} {gv : Value} {T T' : List Int} {en : Int} {G : List UInt8} {cl go : Bool} {tv : Value} (h : Drn w b base M gv T en G cl go) (ht : Ints (fun q => M q ∧ q ≠ b ∧ some q ≠ gv.ownBlock) w tv T') :
    Drn (w.setCell ⟨b, 0, none⟩ tv) b base M gv T' en G cl go ∧ Frm (fun q => q ≠ b) w (w.setCell ⟨b, 0, none⟩ tv) := by
  obtain ⟨tv0, h1, h2, h3, h4⟩ := h
  have hF : Frm (fun q => q ≠ b) w (w.setCell ⟨b, 0, none⟩ tv) := (Frm.refl _ _).setCell _ _ _ (fun _ h => h rfl)
  exact ⟨⟨tv, row_setCell' h1, ht.kept hF (fun k _ hq => hq.2.1), owns_frm h3 hF (fun q hq e => h4 (by rw [hq, e])), h4⟩, hF⟩
theorem Drn.gone {w : World} {b base : Nat} {M : Nat → Prop} {gv : Value} {T : List Int} {en : Int} {G : List UInt8} {cl go : Bool} (h : Drn w b base M gv T en G cl go) (go' : Bool) :
    Drn (w.setCell ⟨b, 4, none⟩ (.bool go')) b base M gv T en G cl go' ∧ Frm (fun q => q ≠ b) w (w.setCell ⟨b, 4, none⟩ (.bool go')) := by
  obtain ⟨tv0, h1, h2, h3, h4⟩ := h
  have hF : Frm (fun q => q ≠ b) w (w.setCell ⟨b, 4, none⟩ (.bool go')) := (Frm.refl _ _).setCell _ _ _ (fun _ h => h rfl)
  exact ⟨⟨tv0, row_setCell' h1, h2.kept hF (fun k _ hq => hq.2.1), owns_frm h3 hF (fun q hq e => h4 (by rw [hq, e])), h4⟩, hF⟩

set_option maxHeartbeats 1000000 in
theorem next_any (b base : Nat) (M : Nat → Prop) (gv : Value) (T : List Int) (en : Int) (G : List UInt8) (cl go : Bool) (n : Nat) (w : World) (h : Drn w b base M gv T en G cl go) (hT : anyNeg T = false) (h0 : 0 ≤ en) (h2 : en ≤ 2) (hn : n ≤ 100000) :
    Calls Try.prog 30 #[.pointer (some ⟨b, 0, none⟩), .int .i64 (n : Int)] w fun e w' => e = .returned (.int .i64 (takeN T en n : Int)) ∧ Drn w' b base M gv T.tail en G cl (goneOf T en go) ∧ Frm (fun q => q ≠ b) w w' := by
  obtain ⟨tv, hr, hti, _, _⟩ := id h
  obtain ⟨o, c, rfl, hc, hm, _⟩ := hti.form
  have c0 : w.cell? ⟨b, 0, none⟩ = some (.slice o T.length c) := by simp [World.cell?, hr]
  have c1 : w.cell? ⟨b, 1, none⟩ = some (.int .i64 en) := by simp [World.cell?, hr]
  have f0 : w.frozen? ⟨b, 0, none⟩ = false := by simp [World.frozen?, hr]
  have f4 : w.frozen? ⟨b, 4, none⟩ = false := by simp [World.frozen?, hr]
  have c4 : w.cell? ⟨b, 4, none⟩ = some (.bool go) := by simp [World.cell?, hr]
  have HD := Lib.hid h
  unfold maxLen at hm
  clear h hr
  rcases T with _ | ⟨z, t⟩
  · have HG := Lib.hid (HD.out.gone true)
    by_cases e1 : en = 1
    · subst e1
      go_enter Try.func30, Try.ntmps30
      go_wp2
      go_ret
      exact ⟨rfl, by simpa [goneOf] using HD.out, Frm.refl _ _⟩
    · by_cases e2 : en = 2
      · subst e2
        go_enter Try.func30, Try.ntmps30
        go_wp2
        go_ret
        exact ⟨rfl, by simpa [goneOf] using HG.out.1, HG.out.2⟩
      · obtain rfl : en = 0 := by omega
        go_enter Try.func30, Try.ntmps30
        go_wp2
        go_ret
        exact ⟨rfl, by simpa [goneOf] using HD.out, Frm.refl _ _⟩
  · obtain ⟨bt, off, rfl, ho, hb, hcell, htl⟩ := ints_tail hti
    have HN := Lib.hid (HD.out.next htl)
    have hz : 0 ≤ z := by
      by_cases hz : 0 ≤ z
      · exact hz
      · have := anyNeg_at (l := z :: t) (k := 0) (by simp) (by simpa using hz)
        rw [this] at hT
        cases hT
    clear htl hti hT
    have hgo : goneOf (z :: t) en go = go := by simp [goneOf]
    have HGO := Lib.hid hgo
    clear hgo
    by_cases hnz : (n : Int) ≤ z
    · have HM := Lib.hid (show takeN (z :: t) en n = n by simp only [takeN]; omega)
      go_enter Try.func30, Try.ntmps30
      go_wp2
      all_goals
        go_ret
        rw [HGO.out, HM.out]
        exact ⟨rfl, by simpa [*] using HN.out.1, by simpa [*] using HN.out.2⟩
    · have HM := Lib.hid (show (takeN (z :: t) en n : Int) = z by simp only [takeN]; omega)
      go_enter Try.func30, Try.ntmps30
      go_wp2
      all_goals
        go_ret
        rw [HGO.out, HM.out]
        exact ⟨rfl, by simpa [*] using HN.out.1, by simpa [*] using HN.out.2⟩

/-- What is wrong. -/
def stateOf (cl go : Bool) : Int := if cl then 8 else if go then 9 else 0
/-- A write: the numbers left, what it got, whether it is gone, how many were taken, the number told. -/
def writeOf (T : List Int) (en : Int) (G : List UInt8) (cl go : Bool) (l : List UInt8) : List Int × List UInt8 × Bool × Nat × Int :=
  if cl then (T, G, go, 0, 8) else if go then (T, G, go, 0, 9) else if l = [] then (T, G, go, 0, 0) else
    (T.tail, G ++ l.take (takeN T en l.length), goneOf T en go, takeN T en l.length, if goneOf T en go then 9 else 0)

theorem Drn.wrote {w w6 : World} {b base : Nat} {M : Nat → Prop} {gv : Value} {T : List Int} {en : Int} {G G' : List UInt8} {cl go : Bool} {o' : Option Addr} {c' : Nat} (h : Drn w b base M gv T en G cl go)
    (hown : w6.ownsRow base 5 1 (.slice o' G'.length c') G'.length (G'.map byteVal)) (hg : w.grownBy w6 gv.ownBlock)
    (hat : (Value.slice o' G'.length c').ownBlock = gv.ownBlock ∨ (Value.slice o' G'.length c').ownBlock = some w.heap.size) :
    Drn (w6.setCell ⟨b, 2, none⟩ (.slice o' G'.length c')) b base M (.slice o' G'.length c') T en G' cl go ∧ Frm (fun q => q ≠ b ∧ some q ≠ gv.ownBlock) w (w6.setCell ⟨b, 2, none⟩ (.slice o' G'.length c')) := by
  obtain ⟨tv, h1, h2, h3, h4⟩ := h
  have hF6 : Frm (fun q => some q ≠ gv.ownBlock) w w6 := (Frm.refl _ _).grown hg (fun k hk _ e => e hk.symm)
  have hF : Frm (fun q => q ≠ b ∧ some q ≠ gv.ownBlock) w (w6.setCell ⟨b, 2, none⟩ (.slice o' G'.length c')) := (hF6.mono (fun _ _ h => h.2)).setCell _ _ _ (fun _ h => h.1 rfl)
  have h6 := frm_block hF6 h1 (fun e => h4 e.symm)
  have hnb : (Value.slice o' G'.length c').ownBlock ≠ some b := by
    rcases hat with e | e
    · rw [e]; exact h4
    · rw [e]
      have := lt_of_block h1
      simp only [ne_eq, Option.some.injEq]
      omega
  refine ⟨⟨tv, row_setCell' h6, ?_, ownsRow_setCell_other hown (by simpa using hnb) _, hnb⟩, hF⟩
  have h2' : Ints (fun q => (M q ∧ q ≠ b ∧ some q ≠ gv.ownBlock) ∧ some q ≠ (Value.slice o' G'.length c').ownBlock) w tv T := h2.mono (fun k hk hq => ⟨hq, by
    rcases hat with e | e
    · rw [e]; exact hq.2.2
    · rw [e]
      simp only [ne_eq, Option.some.injEq]
      omega⟩)
  exact (h2'.kept hF (fun k _ hq => ⟨hq.1.2.1, hq.1.2.2⟩)).mono (fun k _ hq => ⟨hq.1.1, hq.1.2.1, hq.2⟩)

set_option maxRecDepth 100000 in
set_option maxHeartbeats 2000000 in
theorem write_any {ok : Nat → Prop} (b base : Nat) (M : Nat → Prop) (gv : Value) (T : List Int) (en : Int) (G : List UInt8) (cl go : Bool) (vb : Value) (l : List UInt8) (w : World) (h : Drn w b base M gv T en G cl go) (hT : anyNeg T = false) (h0 : 0 ≤ en) (h2 : en ≤ 2)
    (hb : Bytes ok w vb l) (hl : l.length ≤ 10000) (hG : G.length ≤ 100000) (hbb : b ≠ b → False) (hok : ∀ q, ok q → q ≠ b) (hbase : base ≤ w.heap.size) :
    Calls Try.prog 17 #[.pointer (some ⟨b, 0, none⟩), vb] w fun e w' => ∃ gv',
      e = .returned (.tuple #[.int .i64 ((writeOf T en G cl go l).2.2.2.1 : Int), .int .i64 (writeOf T en G cl go l).2.2.2.2]) ∧
      Drn w' b base M gv' (writeOf T en G cl go l).1 en (writeOf T en G cl go l).2.1 cl (writeOf T en G cl go l).2.2.1 ∧
      (gv'.ownBlock = gv.ownBlock ∨ ∃ k, w.heap.size ≤ k ∧ gv'.ownBlock = some k) ∧ Frm (fun q => q ≠ b ∧ some q ≠ gv.ownBlock) w w' := by
  obtain ⟨o, cap, rfl, hc1, hc2, hcc⟩ := hb.form
  unfold maxLen at hc2
  have HS := state_any b base M gv T en G cl go w h
  rcases cl with _ | _
  · rcases go with _ | _
    · by_cases hl0 : l = []
      · subst hl0
        have hw : writeOf T en G false false [] = (T, G, false, 0, 0) := rfl
        have HW := Lib.hid hw
        have HD := Lib.hid h
        clear hw h
        go_enter Try.func17, Try.ntmps17
        go_wp2_with fail
        refine HS.mono ?_
        rintro e w1 ⟨rfl, rfl⟩
        go_wp2
        go_ret2
        rw [HW.out]
        exact ⟨gv, rfl, HD.out, .inl rfl, Frm.refl _ _⟩
      · have hw : writeOf T en G false false l = (T.tail, G ++ l.take (takeN T en l.length), goneOf T en false, takeN T en l.length, if goneOf T en false then 9 else 0) := by simp [writeOf, hl0]
        have HW := Lib.hid hw
        have HN := next_any b base M gv T en G false false l.length w h hT h0 h2 (by omega)
        have hlp : 0 < l.length := List.length_pos_iff.2 hl0
        have hkl := takeN_le T en l.length
        have HB := Lib.hid hb
        have hcc' := hcc hl0
        clear hw h hb hcc hcc'
        have HLK := Lib.hid (show (l.take (takeN T en l.length)).length = takeN T en l.length by rw [List.length_take]; omega)
        have HBT := Lib.hid (HB.out.take rfl hkl hc1 (by unfold maxLen; omega))
        generalize takeN T en l.length = k at *
        generalize l.take k = lk at *
        obtain rfl := HLK.out
        go_enter Try.func17, Try.ntmps17
        go_wp2_with fail
        refine HS.mono ?_
        rintro e w1 ⟨rfl, rfl⟩
        go_wp2_with fail
        refine HN.mono ?_
        rintro e w2 ⟨rfl, hd2, hf2⟩
        have hd3 := hd2.kept (ok := fun _ => True) (Frm.refl (fun _ => True) w2).drew trivial (fun _ _ _ => trivial) (fun _ _ => trivial)
        obtain ⟨_, _, _, hown3, hnb⟩ := id hd3
        obtain ⟨_, _, og, cg, rfl, hr3, _, _⟩ := hd3.row
        have c2 : w2.cell? ⟨b, 2, none⟩ = some (.slice og G.length cg) := by
          have : w2.heap[b]? = _ := hr3
          simp [World.cell?, this]
        have hkc : lk.length ≤ cap := by omega
        have HBT3 := Lib.hid (HBT.out.kept hf2.drew (fun q _ hq => hok q hq))
        have hz2 := hf2.size
        have HD3 := Lib.hid hd3
        have HO3 := Lib.hid hown3
        have HR3 := Lib.hid hr3
        clear hd2 hd3 hown3 hr3 HS HN
        go_wp2_with fail
        go_region_law (refine step_append_bytes (ok := ok) (by rfl) _ _ (by rfl) base _ G.length (G.map byteVal) (by rfl) HO3.out (.slice o lk.length cap) lk (by rfl) HBT3.out (by omega) (by show base ≤ w2.heap.size; omega) ?_; intro oo cc w4 hown4 hgrow4 hat4; have F4 : Frm (fun q => some q ≠ (Value.slice og G.length cg).ownBlock) w2.drew w4 := (Frm.refl _ _).grown hgrow4 (fun q hq _ e => e hq.symm); have hr4 := frm_block F4 HR3.out (fun e => hnb e.symm); have c4 : w4.cell? ⟨b, 2, none⟩ = some (.slice og G.length cg) := (by simp [World.cell?, hr4]); have f4 : w4.frozen? ⟨b, 2, none⟩ = false := (by simp [World.frozen?, hr4]))
        have hown4' : w4.ownsRow base 5 1 (.slice oo (G ++ lk).length cc) (G ++ lk).length ((G ++ lk).map byteVal) := by rw [List.length_append, List.map_append]; exact hown4
        have hW := HD3.out.wrote hown4' hgrow4 (by rw [List.length_append]; exact hat4)
        rw [List.length_append] at hW
        have hSt := state_any b base M _ _ en _ _ _ _ hW.1
        generalize w4.setCell ⟨b, 2, none⟩ (.slice oo (G.length + lk.length) cc) = w5 at *
        have HWW := Lib.hid hW
        clear hW c4 f4 hr4 F4 hown4 hown4' hgrow4
        go_wp2_with fail
        refine hSt.mono ?_
        rintro e w6 ⟨rfl, rfl⟩
        generalize goneOf T en false = gz at *
        rcases gz with _ | _
        all_goals
          go_wp2
          go_ret2
          rw [HW.out]
          refine ⟨_, rfl, HWW.out.1, ?_, (hf2.mono (fun q _ hq => hq.1)).trans ((HWW.out.2).undrew)⟩
          rcases hat4 with e | e
          · exact .inl e
          · exact .inr ⟨_, hz2, e⟩
    · have hw : writeOf T en G false true l = (T, G, true, 0, 9) := rfl
      have HW := Lib.hid hw
      have HD := Lib.hid h
      clear hw h
      go_enter Try.func17, Try.ntmps17
      go_wp2_with fail
      refine HS.mono ?_
      rintro e w1 ⟨rfl, rfl⟩
      go_wp2
      go_ret2
      rw [HW.out]
      exact ⟨gv, rfl, HD.out, .inl rfl, Frm.refl _ _⟩
  · have hw : writeOf T en G true go l = (T, G, go, 0, 8) := rfl
    have HW := Lib.hid hw
    have HD := Lib.hid h
    clear hw h
    go_enter Try.func17, Try.ntmps17
    go_wp2_with fail
    refine HS.mono ?_
    rintro e w1 ⟨rfl, rfl⟩
    go_wp2
    go_ret2
    rw [HW.out]
    exact ⟨gv, rfl, HD.out, .inl rfl, Frm.refl _ _⟩
end Go.Proofs.Ytellnnkgfjhmpaa
