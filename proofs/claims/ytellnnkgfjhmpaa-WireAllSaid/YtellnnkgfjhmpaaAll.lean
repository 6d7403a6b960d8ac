/-
  The walk of WireAll.
-/
import Derived.Test.YtellnnkgfjhmpaaF
namespace Go.Proofs.Ytellnnkgfjhmpaa
open Go.RowKit

theorem frm_below_frm {ok : Nat → Prop} {B : Nat} {w w1 w2 : World} (h : Below B w w1) (hB : B ≤ w.heap.size) (hf : Frm ok w1 w2) (hm : ∀ k, k < B → ok k) : Below B w w2 := below_frm h (Nat.le_trans hB h.size) hf hm

theorem Frm.trans_grown {ok : Nat → Prop} {w w1 w2 : World} (h : Frm ok w w1) (k : Frm (fun q => q < w.heap.size) w1 w2) : Frm ok w w2 :=
  ⟨k.os.trans h.os, k.tape.trans h.tape, k.output.trans h.output, Nat.le_trans h.size k.size, fun i hi ho => (k.block i (Nat.lt_of_lt_of_le hi h.size) hi).trans (h.block i hi ho)⟩

set_option maxRecDepth 100000 in
set_option maxHeartbeats 4000000 in
theorem wireAll_any (v : Value) (L : List (List UInt8)) (n : Nat) (w : World) (h : Pieces (fun _ => True) w v L) (hn : n < 256) (hl : ∀ p ∈ L, p.length ≤ 140737488355328) :
    Calls Try.prog 3 #[v, .int .u8 (n : Int)] w fun e w' => e = .returned (.bool true) ∧ Below w.heap.size w w' := by
  have hk := h
  obtain ⟨o, cap, rfl, hc1, hc2, _⟩ := hk
  unfold maxLen at hc2
  go_enter Try.func3, Try.ntmps3
  go_wp2_with fail
  refine (wakes_any _).mono ?_
  rintro e w1 ⟨rfl, hB1⟩
  have P1 := h.kept (Frm.of_below (ok := fun _ => True) hB1 (fun q hq _ => hq)) (fun _ _ _ => trivial)
  go_wp2_with fail
  refine (great_any _ L w1 P1 hl).mono ?_
  rintro e w2 ⟨B, rfl, hT, hB2⟩
  have P2 := P1.kept (Frm.of_below (ok := fun _ => True) hB2 (fun q hq _ => hq)) (fun _ _ _ => trivial)
  have hB12 := hB1.trans (hB2.mono hB1.size)
  clear P1 h hB1 hB2
  rcases B with _ | _
  · have hT' := hT rfl
    have hLn : L.length ≤ 600 := Nat.le_trans (tot_len L) hT'
    have hLp : ∀ p ∈ L, p.length ≤ 600 := fun p hp => by have := tot_mem hp; omega
    have HT := Lib.hid hT'
    have HLP := Lib.hid hLp
    clear hT hT' hl hLp
    go_wp2_with fail
    refine (newSource_ok _ L 1 w2 P2 (by decide) (by decide) (by omega) (fun p hp => Nat.le_trans (HLP.out p hp) (by omega))).mono ?_
    rintro e w3 ⟨rfl, ⟨g, ⟨hg1, hg2⟩, hs3⟩, hB3⟩
    have P3 := P2.kept (Frm.of_below (ok := fun _ => True) hB3 (fun q hq _ => hq)) (fun _ _ _ => trivial)
    have hB13 := hB12.trans (hB3.mono hB12.size)
    have hz2 := hB12.size
    have hz3 := hB3.size
    clear P2 hB12 hB3
    have hown0 : w3.ownsRow w3.heap.size 5 1 (.slice none 0 0) 0 [] := World.ownsRow_nil _ _ _ _
    have H0 := Lib.hid hown0
    have HP3 := Lib.hid P3
    have HS3 := Lib.hid hs3
    obtain ⟨o', cap', e', _, _, h4⟩ := P3
    cases e'
    have HL4 := Lib.hid h4
    clear hs3 hown0 h4
    go_wp2_with fail
    go_loopw [7, 9, 32] (fun a tu i wr => ∃ k oa ca, i = .int .i64 (k : Nat) ∧ tu = .int .i64 ((2 + tot (L.take k) : Nat) : Int) ∧ a = .slice oa (L.take k).flatten.length ca ∧ k ≤ L.length ∧
        wr.ownsRow w3.heap.size 5 1 a (L.take k).flatten.length ((L.take k).flatten.map byteVal) ∧ Below w3.heap.size w3 wr) (fun _ _ i _ => L.length - (intOf i).toNat)
    case atStart => exact ⟨0, none, 0, rfl, by simp [tot], by simp, Nat.zero_le _, by simpa using H0.out, Below.refl _ _⟩
    case round =>
      obtain ⟨k, oa, ca, rfl, rfl, rfl, hk, hown, hb⟩ := hrel
      by_cases hlt : k < L.length
      · have hl0 : L ≠ [] := by intro e; rw [e] at hlt; simp at hlt
        obtain ⟨b, off, rfl, _, hbs, hc⟩ := HL4.out hl0
        obtain ⟨vi, hvi, hby⟩ := hc k hlt
        have hvi' : wr.cell? ⟨b, off + k, none⟩ = some vi := (hb.cell (p := ⟨b, off + k, none⟩) hbs).trans hvi
        have hby' := hby.kept (Frm.of_below (ok := fun _ => True) hb (fun q hq _ => hq)) (fun _ _ _ => trivial)
        obtain ⟨ov, cv, rfl, _, _, _⟩ := hby'.form
        have HST := Lib.hid (tot_take hlt)
        have HFL := Lib.hid (flat_take hlt)
        have htl := tot_take_le L k
        have hfl := flat_tot (L.take k)
        have hpl := HLP.out _ (getD_mem hlt)
        have htt := HT.out
        generalize (L.take k).flatten = F at *
        generalize tot (L.take k) = T at *
        generalize L.getD k [] = l at *
        have HBY := Lib.hid hby'
        have HOW := Lib.hid hown
        have hbz := hb.size
        clear hc hvi hby hby' hown
        go_wp2_with (at_builtin; refine wpList_append_bytes (ok := fun _ => True) rfl _ _ rfl w3.heap.size _ F.length (F.map byteVal) rfl HOW.out _ l rfl HBY.out (by omega) hbz ?_; intro oa' ca' w5 hown5 hgrow5)
        have hb5 : Below w3.heap.size w3 w5 := hb.grown hgrow5 hbz (fun q hq => (HOW.out.lt q hq).1)
        go_roundw
        case rel => exact ⟨k + 1, oa', ca', by go_num, by rw [HST.out]; go_num, by rw [HFL.out, List.length_append], by omega, by rw [HFL.out, List.length_append, List.map_append]; exact hown5, hb5⟩
        case measure => simp [intOf]; omega
      · obtain rfl : k = L.length := by omega
        rw [List.take_length] at hown ⊢
        have hfl := flat_tot L
        have hT6 := HT.out
        have HS4 := Lib.hid (HS3.out.kept (Frm.of_below (ok := fun q => q < w3.heap.size) hb (fun q _ hq => hq)) (by have := (HS3.out.cells).choose_spec.choose_spec; exact lt_of_block this) (fun q hq _ => hq.2))
        have hb4 : w2.heap.size + 1 < w3.heap.size := lt_of_block (HS3.out.cells).choose_spec.choose_spec
        have HOW := Lib.hid hown
        have hz4 := hb.size
        have hB14 := hB13.trans (hb.mono hB13.size)
        have hz13 := hB13.size
        clear hown HL4 HLP H0 HP3 HS3 hb hB13
        generalize hF : L.flatten = F at *
        have HF0 := Lib.hid hF.symm
        clear hF
        generalize hTT : tot L = T0 at *
        generalize wr = w4 at *
        generalize hT2 : 2 + T0 = T2 at *
        go_wp2_with fail
        go_loopw [8, 46] (fun ou i wr => ∃ k oo co Li begi O, i = .int .i64 (k : Nat) ∧ ou = .slice oo O.length co ∧ wr.ownsRow w4.heap.size 5 1 (.slice oo O.length co) O.length (O.map byteVal) ∧
            Src wr (w2.heap.size + 1) (fun q => w2.heap.size + 2 ≤ q ∧ q < w3.heap.size) g Li begi 1 O.length false ∧ F = O ++ Li.flatten ∧ k + tot Li ≤ T0 ∧ Frm (fun q => q ≠ w2.heap.size + 1 ∧ q ≠ g) w4 wr) (fun _ i _ => T0 + 2 - (intOf i).toNat)
        case atStart => exact ⟨0, none, 0, L, false, [], rfl, rfl, World.ownsRow_nil _ _ _ _, by simpa using HS4.out, HF0.out, by omega, Frm.refl _ _⟩
        case round =>
          obtain ⟨k, oo, co, Li, begi, O, rfl, rfl, hown, hs, hF, hk, hf⟩ := hrel
          have hlt : (k : Int) < (T2 : Int) := by omega
          have hLi := tot_len Li
          have hLp : ∀ p ∈ Li, p.length ≤ 1000 := fun p hp => by have := tot_mem hp; omega
          have hFl : O.length + Li.flatten.length = F.length := by rw [hF, List.length_append]
          have hst := readOf_step Li begi (n + 1) (by omega)
          have HR := read_any _ _ g Li begi 1 O.length (n + 1) wr hs (by omega) (by omega) (by omega) (by omega) (by omega) hLp
          generalize readOf Li begi 1 (n + 1) = R at HR hst
          obtain ⟨L', b', t, er⟩ := R
          dsimp only at HR hst
          have hn1 : ((n + 1 : Nat) : Int) = (n : Int) + 1 := by omega
          rw [hn1] at HR
          have HOW2 := Lib.hid hown
          have HFE := Lib.hid hF
          have HST := Lib.hid hst
          clear hown hs hF hst hLp
          go_wp2_with fail
          refine HR.mono ?_
          rintro e w5 ⟨o5, c5, rfl, hs5, hown5, hf5⟩
          have htl : t.length ≤ Li.flatten.length := by
            rcases HST.out with ⟨_, rfl, _⟩ | ⟨_, e, _⟩
            · simp
            · rw [e, List.length_append]; omega
          have hz5 := hf.size
          have hz6 := hf5.size
          have hO5 := owns_frm HOW2.out hf5 (fun q hq => by have := (HOW2.out.lt q hq).1; exact ⟨by omega, by omega⟩)
          have HO5 := Lib.hid hO5
          have HB5 := Lib.hid (Bytes.of_owns (ok := fun _ => True) hown5 rfl (fun _ _ _ => trivial))
          have HS5 := Lib.hid hs5
          have hF5 : Frm (fun q => q ≠ w2.heap.size + 1 ∧ q ≠ g) w4 w5 := hf.trans hf5
          have HA5 := Lib.hid ((Bytes.of_owns (ok := fun q => w3.heap.size ≤ q ∧ q < w4.heap.size) HOW.out rfl (fun q h1 h2 => ⟨h1, h2⟩)).kept hF5 (fun q _ hq => ⟨by omega, by omega⟩))
          have hB5 : Below w.heap.size w w5 := below_frm hB14 hB14.size hF5 (fun q hq => ⟨by omega, by omega⟩)
          clear hO5 hown5 hs5 HR
          rcases HST.out with ⟨rfl, rfl, hfe⟩ | ⟨rfl, hfe, htt⟩
          · have HF := Lib.hid (show F = O by rw [HFE.out, hfe, List.append_nil])
            clear hfe
            have HB5' : Hid (Bytes (fun _ => True) w5 (.slice o5 0 c5) []) := HB5
            go_wp2_with (at_builtin; refine wpList_append_bytes (ok := fun _ => True) rfl _ _ rfl w4.heap.size _ O.length (O.map byteVal) rfl HO5.out _ [] rfl HB5'.out (by simp; omega) (by omega) ?_; intro oo' co' w6 hown6 hgrow6)
            have hown6' : w6.ownsRow w4.heap.size 5 1 (.slice oo' O.length co') O.length (O.map byteVal) := by simpa using hown6
            have hF6 : Frm (fun q => q < w4.heap.size) w5 w6 := (Frm.refl _ _).grown hgrow6 (fun q hq _ hlt => by have := (HO5.out.lt q hq).1; omega)
            have hA6 := HA5.out.kept hF6 (fun q _ hq => hq.2)
            have hO6 := Bytes.of_owns (ok := fun _ => True) hown6' rfl (fun _ _ _ => trivial)
            have hs6 := HS5.out.kept hF6 (by omega) (fun q hq _ => by have := hq.2; omega)
            have hB6 := below_frm hB5 hB5.size hF6 (fun q hq => by omega)
            obtain rfl := HF.out
            refine (same_any _ _ F w6 hO6 hA6 (by omega)).mono ?_
            rintro e w7 ⟨rfl, hB7⟩
            have hs7 := hs6.kept (Frm.of_below (ok := fun _ => True) hB7 (fun q hq _ => hq)) trivial (fun _ _ _ => trivial)
            go_wp2_with fail
            refine (reads_any _ _ g L' b' 1 _ false w7 hs7).mono ?_
            rintro e w8 ⟨rfl, rfl⟩
            go_wp2
            go_ret
            exact ⟨by simp, hB6.trans (hB7.mono hB6.size)⟩
          · have HFE2 := Lib.hid hfe
            clear hfe
            go_wp2_with (at_builtin; refine wpList_append_bytes (ok := fun _ => True) rfl _ _ rfl w4.heap.size _ O.length (O.map byteVal) rfl HO5.out _ t rfl HB5.out (by omega) (by omega) ?_; intro oo' co' w6 hown6 hgrow6)
            have hF6 : Frm (fun q => q < w4.heap.size) w5 w6 := (Frm.refl _ _).grown hgrow6 (fun q hq _ hlt => by have := (HO5.out.lt q hq).1; omega)
            have hs6 := HS5.out.kept hF6 (by omega) (fun q hq _ => by have := hq.2; omega)
            go_roundw
            case rel => exact ⟨k + 1, oo', co', L', b', O ++ t, by go_num, by rw [List.length_append], by rw [List.length_append, List.map_append]; exact hown6, by rw [List.length_append]; exact hs6, by rw [List.append_assoc, ← HFE2.out]; exact HFE.out, by omega, Frm.trans_grown hF5 hF6⟩
            case measure => simp [intOf]; omega
  · go_wp2
    go_ret
    exact ⟨rfl, hB12⟩
end Go.Proofs.Ytellnnkgfjhmpaa
