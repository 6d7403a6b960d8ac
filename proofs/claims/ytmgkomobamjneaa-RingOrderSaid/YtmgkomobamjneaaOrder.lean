/-
  The walk of RingOrder.
-/
import Derived.Test.YtmgkomobamjneaaM
namespace Go.Proofs.Ytmgkomobamjneaa
open Go.RowKit

/-- One round: written as far as there is room, read some. -/
theorem order_step (B O H R : List UInt8) (N by_ : Nat) (hN : 1 ≤ N) (hb : 1 ≤ by_) (hH : H.length ≤ N) (e : B = O ++ (H ++ R)) (i : Nat) (hi : i ≤ O.length ∨ O.length = B.length) :
    B = (O ++ (H ++ R.take (room N H.length R.length)).take (cut by_ (H ++ R.take (room N H.length R.length)).length)) ++ ((H ++ R.take (room N H.length R.length)).drop (cut by_ (H ++ R.take (room N H.length R.length)).length) ++ R.drop (room N H.length R.length)) ∧
    (i + 1 ≤ (O ++ (H ++ R.take (room N H.length R.length)).take (cut by_ (H ++ R.take (room N H.length R.length)).length)).length ∨
      (O ++ (H ++ R.take (room N H.length R.length)).take (cut by_ (H ++ R.take (room N H.length R.length)).length)).length = B.length) := by
  have h1 : B = (O ++ (H ++ R.take (room N H.length R.length)).take (cut by_ (H ++ R.take (room N H.length R.length)).length)) ++ ((H ++ R.take (room N H.length R.length)).drop (cut by_ (H ++ R.take (room N H.length R.length)).length) ++ R.drop (room N H.length R.length)) := by
    rw [e, List.append_assoc]
    congr 1
    rw [← List.append_assoc, List.take_append_drop, List.append_assoc, List.take_append_drop]
  refine ⟨h1, ?_⟩
  have hBl : B.length = O.length + (H.length + R.length) := by rw [e, List.length_append, List.length_append]
  have hr : room N H.length R.length = min R.length (N - H.length) := rfl
  have hl : (H ++ R.take (room N H.length R.length)).length = H.length + room N H.length R.length := by rw [List.length_append, List.length_take]; omega
  have hc : cut by_ (H.length + room N H.length R.length) = min by_ (H.length + room N H.length R.length) := by
    unfold cut
    rw [if_neg (by omega)]
    rfl
  rw [List.length_append, List.length_take, hl, hc]
  omega

set_option maxRecDepth 100000 in
set_option maxHeartbeats 8000000 in
theorem ringOrder_any (n by_ : Int) (v : Value) (B : List UInt8) (w : World) (hv : Bytes (fun _ => True) w v B) (hn0 : 0 ≤ n) (hn1 : n ≤ 255) (hk0 : 0 ≤ by_) (hk1 : by_ ≤ 255) (hBl : B.length ≤ 140737488351232) :
    Calls Try.prog 3 #[.int .u8 n, v, .int .u8 by_] w fun e w' => e = .returned (.bool true) ∧ Below w.heap.size w w' := by
  obtain ⟨n, rfl⟩ := Int.eq_ofNat_of_zero_le hn0
  obtain ⟨y, rfl⟩ := Int.eq_ofNat_of_zero_le hk0
  obtain ⟨S, hS⟩ : ∃ S, S = n + 1 := ⟨_, rfl⟩
  have e1 : (n : Int) + 1 = (S : Int) := by omega
  have hS1 : 1 ≤ S ∧ S ≤ 256 := by omega
  obtain ⟨o, cap, rfl, hcl, hcm, _⟩ := hv.form
  unfold maxLen at hcm
  have hvk : ∀ w', Below w.heap.size w w' → Bytes (fun q => q < w.heap.size) w' (.slice o B.length cap) B := fun w' hb => (hv.mono (ok' := fun q => q < w.heap.size) (fun q hq _ => hq)).kept (Frm.of_below (ok := fun q => q < w.heap.size) hb (fun q _ hq => hq)) (fun _ _ hq => hq)
  have HV := Lib.hid hvk
  clear hS hv hvk
  go_enter Try.func3, Try.ntmps3
  go_wp2_with fail
  refine (wakes_any _).mono ?_
  rintro e w1 ⟨rfl, hB1⟩
  by_cases hlen : B.length ≤ 400
  · go_wp2_with fail
    refine (new_ok S w1 (by omega) (by omega)).mono ?_
    rintro e w2 ⟨b, g, rfl, hb, hg, hr2, hB2⟩
    have hB12 := hB1.trans (hB2.mono hB1.size)
    have hz1 := hB1.size
    have HR2 := Lib.hid hr2
    clear hr2
    go_wp2_with fail
    go_loopw [9, 10, 35] (fun vo vr i wr => ∃ (j h : Nat) (O H R : List UInt8) (o1 : Option Addr) (c1 : Nat) (o2 : Option Addr) (c2 : Nat), i = .int .i64 j ∧ j ≤ 2 * B.length + 2 ∧ vo = .slice o1 O.length c1 ∧ vr = .slice o2 R.length c2 ∧ wr.ownsRow w.heap.size 5 1 (.slice o1 O.length c1) O.length (O.map byteVal) ∧
      (∀ q, (Value.slice o1 O.length c1).ownBlock = some q → q ≠ b ∧ q ≠ g) ∧ Bytes (fun q => q < w.heap.size) wr (.slice o2 R.length c2) R ∧ Rng wr b g S h H ∧ B = O ++ (H ++ R) ∧ (j ≤ O.length ∨ O.length = B.length) ∧ Below w.heap.size w wr) (fun _ _ i _ => 2 * B.length + 2 - (intOf i).toNat)
    case atStart => exact ⟨0, 0, [], [], B, none, 0, o, cap, rfl, by omega, rfl, rfl, World.ownsRow_nil _ _ _ _, fun q hq => by simp [Value.ownBlock] at hq, HV.out _ hB12, HR2.out, rfl, .inl (Nat.zero_le _), hB12⟩
    case round =>
      obtain ⟨j, h, O, H, R, o1, c1, o2, c2, rfl, hj, rfl, rfl, hown, hob, hbr, hr, he, hpr, hbw⟩ := hrel
      have hbd := hr.bd
      have hstep := order_step B O H R S (y + 1) (by omega) (by omega) hbd.2.1 he j hpr
      rw [show ((y + 1 : Nat) : Int) = (y : Int) + 1 by omega] at hstep
      have hBe : B.length = O.length + (H.length + R.length) := by rw [he, List.length_append, List.length_append]
      by_cases hlt : (j : Int) < 2 * (B.length : Int) + 2
      · have hKd : room S H.length R.length ≤ R.length ∧ room S H.length R.length ≤ S - H.length := by unfold room; omega
        have hWr := write_any b g S h H (.slice o2 R.length c2) R wr hr hbr (fun q hq => by omega) (by omega)
        have hl1 : (H ++ R.take (room S H.length R.length)).length = H.length + room S H.length R.length := by rw [List.length_append, List.length_take]; omega
        have hRd := fun (W : World) (hr : Rng W b g S h (H ++ R.take (room S H.length R.length))) => read_any b g S h (H ++ R.take (room S H.length R.length)) ((y : Int) + 1) W hr (by omega)
        have hcu := cut_le ((y : Int) + 1) (H ++ R.take (room S H.length R.length)).length
        have htl : ((H ++ R.take (room S H.length R.length)).take (cut ((y : Int) + 1) (H ++ R.take (room S H.length R.length)).length)).length = cut ((y : Int) + 1) (H ++ R.take (room S H.length R.length)).length := by rw [List.length_take]; omega
        obtain ⟨_, _, ef, hc2, hc3, _⟩ := hbr.form
        cases ef
        unfold maxLen at hc3
        have hcut := fun (W : World) (hb : Bytes (fun q => q < w.heap.size) W (.slice o2 R.length c2) R) o3 (hs : SliceTo o2 o3 (room S H.length R.length) R.length) => hb.cutTo hKd.1 hs
        have HCUT := Lib.hid hcut
        have HRd := Lib.hid hRd
        have HST := Lib.hid hstep
        have HTL := Lib.hid htl
        have HWr := Lib.hid hWr
        have HOW := Lib.hid hown
        have HOB := Lib.hid hob
        have HBR := Lib.hid hbr
        have HBE := Lib.hid hBe
        have hrow := fun q hq => (HOW.out.lt q hq)
        have HLT := Lib.hid hrow
        have hOl : O.length ≤ B.length := by omega
        have hH1 : (H ++ R.take (room S H.length R.length)).length ≤ S := by omega
        clear hstep hown hob hbr hr he hpr hBe hWr hRd hcut htl hl1 hrow
        generalize room S H.length R.length = K at *
        generalize H ++ R.take K = H1 at *
        generalize hm : cut ((y : Int) + 1) H1.length = m at *
        generalize H1.take m = t at *
        generalize H1.drop m = H2 at *
        have hKi : ¬ (R.length : Int) < (K : Int) := by omega
        clear hm
        go_wp2_with fail
        refine HWr.out.mono ?_
        rintro e w4 ⟨rfl, hr4, hf4⟩
        have HR4 := Lib.hid hr4
        clear hr4
        have hsum : (H1.length : Int) + ((S : Int) - (H1.length : Int)) = (S : Int) := by omega
        go_wp2_with fail
        refine (len_any b g S h H1 w4 HR4.out).mono ?_
        rintro e w5 ⟨rfl, rfl⟩
        go_wp2_with fail
        refine (free_any b g S h H1 w4 HR4.out).mono ?_
        rintro e w5 ⟨rfl, n5, rfl⟩
        have F5 : Frm (fun q => q ≠ b ∧ q ≠ g) wr (w4.drewN n5) := frm_drewN hf4 n5
        have hr5 := HR4.out.drewN n5
        generalize w4.drewN n5 = w5 at *
        have HR5 := Lib.hid hr5
        clear hr5 hf4
        go_wp2_with (with_reducible refine wpList_slice_l rfl (.tmp 55) (.tmp 56) rfl _ _ _ rfl K _ rfl ?s1 ?s2 ?s3 ?_)
        case s1 => rfl
        case s2 => omega
        case s3 => omega
        intro o3 hs3
        have hbr5 := HCUT.out w5 (HBR.out.kept F5 (fun q _ hq => ⟨by omega, by omega⟩)) o3 hs3
        have hown5 := owns_frm HOW.out F5 (fun q hq => HOB.out q hq)
        have hb5 := below_frm hbw hbw.size F5 (fun q hq => ⟨by omega, by omega⟩)
        have HBR5 := Lib.hid hbr5
        have HOW5 := Lib.hid hown5
        clear hbr5 hown5 hs3
        go_wp2_with fail
        refine (HRd.out w5 HR5.out).mono ?_
        rintro e w6 ⟨o4, c4, rfl, hown6, hr6, hf6⟩
        have hbt : Bytes (fun _ => True) w6 (.slice o4 m c4) t := Bytes.of_owns hown6 HTL.out.symm (fun _ _ _ => trivial)
        have hown6' := owns_frm HOW5.out hf6 (fun q hq => (HOB.out q hq).1)
        have hbr6 := HBR5.out.kept hf6 (fun q _ hq => by omega)
        have hb6 := below_frm hb5 hb5.size hf6 (fun q hq => by omega)
        have hz6 := hb6.size
        have hbd6 := hr6.bd
        have hml : m ≤ 256 := by omega
        have HBT := Lib.hid hbt
        have HOW6 := Lib.hid hown6'
        have HBR6 := Lib.hid hbr6
        have HR6 := Lib.hid hr6
        clear hbt hown6 hown6' hbr6 hr6
        go_wp2_with (at_builtin; refine wpList_append_bytes_at (ok := fun _ => True) rfl _ _ rfl w.heap.size _ O.length (O.map byteVal) rfl HOW6.out _ t rfl HBT.out ?a1 ?a2 ?_)
        case a1 => rw [HTL.out]; omega
        case a2 => omega
        intro o7 c7 w7 hown7 hgrow7 hat7
        have F7 : Frm (fun q => some q ≠ (Value.slice o1 O.length c1).ownBlock) w6 w7 := (Frm.refl _ _).grown hgrow7 (fun q hq _ e => e hq.symm)
        have hr7 := HR6.out.kept F7 (fun e => (HOB.out b e.symm).1 rfl) (fun e => (HOB.out g e.symm).2 rfl)
        have hbr7 := HBR6.out.kept F7 (fun q _ hq e => by have := (HLT.out q e.symm).1; omega)
        have hb7 := below_frm hb6 hb6.size F7 (fun q hq e => by have := (HLT.out q e.symm).1; omega)
        have hob7 : ∀ q, (Value.slice o7 (O.length + t.length) c7).ownBlock = some q → q ≠ b ∧ q ≠ g := fun q hq => by
          rcases hat7 with e | e
          · exact HOB.out q (by rw [← e]; exact hq)
          · rw [e] at hq
            cases hq
            omega
        have hlo : (O ++ t).length = O.length + t.length := List.length_append
        have hown7' : w7.ownsRow w.heap.size 5 1 (.slice o7 (O ++ t).length c7) (O ++ t).length ((O ++ t).map byteVal) := by rw [hlo, List.map_append]; exact hown7
        rw [← hlo] at hob7
        have HLO := Lib.hid hlo
        have HR7 := Lib.hid hr7
        have HBR7 := Lib.hid hbr7
        have HOB7 := Lib.hid hob7
        have HOW7 := Lib.hid hown7'
        have hLD : (R.drop K).length = R.length - K := List.length_drop
        have HLD := Lib.hid hLD
        clear hlo hr7 hbr7 hob7 hown7 hown7' hgrow7 hat7 F7 hLD
        go_wp2
        go_roundw
        case rel => exact ⟨j + 1, _, O ++ t, H2, R.drop K, o7, c7, o3, c2 - K, by go_num, by omega, by rw [HLO.out], by rw [HLD.out], HOW7.out, HOB7.out, by rw [HLD.out]; exact HBR7.out, HR7.out, HST.out.1, HST.out.2, hb7⟩
        case measure => simp [intOf]; omega
      · have hOB : O.length = B.length := by omega
        have hH0 : H = [] := List.length_eq_zero_iff.1 (by omega)
        have hR0 : R = [] := List.length_eq_zero_iff.1 (by omega)
        subst hH0 hR0
        have hO : B = O := by simpa using he
        subst hO
        clear hstep hBe hOB he hpr
        have HOW := Lib.hid hown
        have hbk := HV.out wr hbw
        have HBK := Lib.hid hbk
        clear hown hbk hbr hob
        go_wp2_with fail
        refine (len_any b g S h [] wr hr).mono ?_
        rintro e w5 ⟨rfl, rfl⟩
        go_wp2_with fail
        refine (same_any (ok := fun _ => True) (.slice o1 B.length c1) (.slice o B.length cap) B wr (Bytes.of_owns HOW.out rfl (fun _ _ _ => trivial)) HBK.out (by omega)).mono ?_
        rintro e w6 ⟨rfl, hB6⟩
        have hbF := hbw.trans (hB6.mono hbw.size)
        go_wp2
        go_ret
        exact ⟨rfl, hbF⟩
  · go_wp2_with fail
    go_ret
    exact ⟨rfl, hB1⟩
end Go.Proofs.Ytmgkomobamjneaa
