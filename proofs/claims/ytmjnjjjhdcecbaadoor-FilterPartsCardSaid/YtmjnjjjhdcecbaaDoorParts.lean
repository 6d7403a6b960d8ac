/-
  The walk of FilterParts.
-/
import Derived.Test.YtmjnjjjhdcecbaaDoorL
namespace Go.Proofs.YtmjnjjjhdcecbaaDoor
open Go.RowKit

theorem pick_sum (l : List Fd) : (pick false l).length + (pick true l).length = l.length := by
  induction l with
  | nil => rfl
  | cons f t ih =>
    unfold pick at ih ⊢
    cases hq : forb f.1 <;> simp [List.filter, hq] at ih ⊢ <;> omega
theorem pick_again (l : List Fd) : pick false (pick false l) = pick false l := by
  unfold pick
  rw [List.filter_filter]
  simp
theorem pick_none (l : List Fd) : pick true (pick false l) = [] := by
  unfold pick
  rw [List.filter_filter, List.filter_eq_nil_iff]
  intro f _
  simp
theorem pick_mem {b : Bool} {l : List Fd} {f : Fd} (h : f ∈ pick b l) : f ∈ l := (List.mem_filter.1 h).1

set_option maxRecDepth 100000 in
set_option maxHeartbeats 4000000 in
theorem parts_any (v : Value) (A : List Fd) (w : World) (hA : Flds (fun _ => True) w v A) (hlA : ∀ f ∈ A, f.1.size ≤ 140737488351232 ∧ f.2.size ≤ 140737488351232) (he : Ends w) (hT : Tab w) (h2 : 1 < w.heap.size) :
    Calls Tryd.prog 6 #[v] w fun e w' => e = .returned (.bool true) ∧ Below w.heap.size w w' := by
  have tr : ∀ {W W' : World}, Below W.heap.size W W' → Frm (fun _ => True) W W' := fun hb => Frm.of_below hb (fun _ hq _ => hq)
  go_enter Tryd.func6, Tryd.ntmps6
  go_wp2_with fail
  refine (wakes_any w he hT (by omega)).mono ?_
  rintro e w1 ⟨rfl, hb1⟩
  have hA1 := hA.kept (tr hb1) (fun _ _ _ => trivial)
  have hGA := great_any v A w1 hA1 (fun f hf => by have := hlA f hf; omega)
  have hs1 := hb1.size
  go_wp2_with fail
  refine hGA.mono ?_
  rintro e w2 ⟨GA, rfl, hGt, hb2⟩
  have hb02 := hb1.trans (hb2.mono hs1)
  have hs2 := hb02.size
  cases GA
  · have hta := hGt rfl
    have hla := tot_len A
    have hA2 := hA1.kept (tr hb2) (fun _ _ _ => trivial)
    have hl1 : ∀ f ∈ A, f.1.size ≤ 140737488351232 := fun f hf => (hlA f hf).1
    have hlK : ∀ f ∈ pick false A, f.1.size ≤ 140737488351232 := fun f hf => hl1 f (pick_mem hf)
    have hsum := pick_sum A
    have hkk := pick_again A
    have hdk := pick_none A
    have hform : ∃ o c, v = .slice o A.length c := by
      obtain ⟨o, c, h, _⟩ := hA2
      exact ⟨o, c, h⟩
    obtain ⟨ol, cl, rfl⟩ := hform
    have hK := Lib.hid (keep_any _ A w2 hA2 hl1 (by omega) (he.kept hb02 (by omega)) (hT.kept hb02 (by omega)) (by omega))
    have hPF := fun W hF => part_any (ok := fun _ => True) (.slice ol A.length cl) false A W hF hl1 (by omega)
    have hPT := fun W hF => part_any (ok := fun _ => True) (.slice ol A.length cl) true A W hF hl1 (by omega)
    have hDr := fun W hF hb hT' hh => drop_any (ok := fun _ => True) (.slice ol A.length cl) A W hF hl1 (by omega) hb hT' hh
    have hCo := fun W hF hb hT' hh => count_any (ok := fun _ => True) (.slice ol A.length cl) A W hF hl1 (by omega) hb hT' hh
    generalize pick false A = KA at *
    generalize pick true A = DA at *
    have HA2 := Lib.hid hA2
    have HPF := Lib.hid hPF
    have HPT := Lib.hid hPT
    have HDR := Lib.hid hDr
    have HCO := Lib.hid hCo
    have HL1 := Lib.hid hl1
    have HLK := Lib.hid hlK
    have HKK := Lib.hid hkk
    have HDK := Lib.hid hdk
    have hsz : ((KA.length : Nat) : Int) + ((DA.length : Nat) : Int) = ((A.length : Nat) : Int) := by omega
    clear hGA hGt hA hA1 hA2 hlA hPF hPT hDr hCo hl1 hlK hkk hdk
    go_wp2_with fail
    refine hK.out.mono ?_
    rintro e w3 ⟨oa, ca, rfl, hown3, hb3⟩
    have hb03 := hb02.trans (hb3.mono hs2)
    have hs3 := hb03.size
    have HFa := Lib.hid (show Flds (fun _ => True) w3 (.slice oa KA.length ca) KA from Flds.of_owns hown3 rfl (fun _ _ _ _ => trivial))
    have HA3 := Lib.hid (HA2.out.kept (tr hb3) (fun _ _ _ => trivial))
    have hD := Lib.hid (HDR.out w3 HA3.out (he.kept hb03 (by omega)) (hT.kept hb03 (by omega)) (by omega))
    clear hown3 hK HA2 HDR
    go_wp2_with fail
    refine hD.out.mono ?_
    rintro e w4 ⟨ob, cb, rfl, hown4, hb4⟩
    have hb04 := hb03.trans (hb4.mono hs3)
    have hs4 := hb04.size
    have HFb := Lib.hid (show Flds (fun _ => True) w4 (.slice ob DA.length cb) DA from Flds.of_owns hown4 rfl (fun _ _ _ _ => trivial))
    have HFa4 := Lib.hid (HFa.out.kept (tr hb4) (fun _ _ _ => trivial))
    have HA4 := Lib.hid (HA3.out.kept (tr hb4) (fun _ _ _ => trivial))
    have hC := Lib.hid (HCO.out w4 HA4.out (he.kept hb04 (by omega)) (hT.kept hb04 (by omega)) (by omega))
    clear hown4 hD HA3 HFa HCO
    go_wp2_with fail
    refine hC.out.mono ?_
    rintro e w5 ⟨rfl, hb5⟩
    have hb05 := hb04.trans (hb5.mono hs4)
    have hs5 := hb05.size
    have HFb5 := Lib.hid (HFb.out.kept (tr hb5) (fun _ _ _ => trivial))
    have HFa5 := Lib.hid (HFa4.out.kept (tr hb5) (fun _ _ _ => trivial))
    have HA5 := Lib.hid (HA4.out.kept (tr hb5) (fun _ _ _ => trivial))
    have hP := Lib.hid (HPF.out w5 HA5.out)
    clear hC HFb HFa4 HA4 HPF
    go_wp2_with fail
    refine hP.out.mono ?_
    rintro e w6 ⟨o6, c6, rfl, hown6, hb6⟩
    have hb06 := hb05.trans (hb6.mono hs5)
    have hs6 := hb06.size
    have HFb6 := Lib.hid (HFb5.out.kept (tr hb6) (fun _ _ _ => trivial))
    have HFa6 := Lib.hid (HFa5.out.kept (tr hb6) (fun _ _ _ => trivial))
    have HA6 := Lib.hid (HA5.out.kept (tr hb6) (fun _ _ _ => trivial))
    have hF := Lib.hid (fields_same _ _ KA w6 HFa6.out (show Flds (fun _ => True) w6 (.slice o6 KA.length c6) KA from Flds.of_owns hown6 rfl (fun _ _ _ _ => trivial)))
    clear hown6 hP HFb5 HFa5 HA5
    go_wp2_with fail
    refine hF.out.mono ?_
    rintro e w7 ⟨rfl, hb7⟩
    have hb07 := hb06.trans (hb7.mono hs6)
    have hs7 := hb07.size
    have HFb7 := Lib.hid (HFb6.out.kept (tr hb7) (fun _ _ _ => trivial))
    have HFa7 := Lib.hid (HFa6.out.kept (tr hb7) (fun _ _ _ => trivial))
    have HA7 := Lib.hid (HA6.out.kept (tr hb7) (fun _ _ _ => trivial))
    have hP := Lib.hid (HPT.out w7 HA7.out)
    clear hF HFb6 HFa6 HA6 HPT
    go_wp2_with fail
    refine hP.out.mono ?_
    rintro e w8 ⟨o8, c8, rfl, hown8, hb8⟩
    have hb08 := hb07.trans (hb8.mono hs7)
    have hs8 := hb08.size
    have HFb8 := Lib.hid (HFb7.out.kept (tr hb8) (fun _ _ _ => trivial))
    have HFa8 := Lib.hid (HFa7.out.kept (tr hb8) (fun _ _ _ => trivial))
    have hF := Lib.hid (fields_same _ _ DA w8 HFb8.out (show Flds (fun _ => True) w8 (.slice o8 DA.length c8) DA from Flds.of_owns hown8 rfl (fun _ _ _ _ => trivial)))
    clear hown8 hP HFb7 HFa7 HA7
    go_wp2_with fail
    refine hF.out.mono ?_
    rintro e w9 ⟨rfl, hb9⟩
    have hb09 := hb08.trans (hb9.mono hs8)
    have hs9 := hb09.size
    have HFa9 := Lib.hid (HFa8.out.kept (tr hb9) (fun _ _ _ => trivial))
    have hK := keep_any _ KA w9 HFa9.out HLK.out (by omega) (he.kept hb09 (by omega)) (hT.kept hb09 (by omega)) (by omega)
    rw [HKK.out] at hK
    have HK := Lib.hid hK
    clear hF HFb8 HFa8 hK
    go_wp2_with fail
    refine HK.out.mono ?_
    rintro e w10 ⟨o10, c10, rfl, hown10, hb10⟩
    have hb010 := hb09.trans (hb10.mono hs9)
    have hs10 := hb010.size
    have HFa10 := Lib.hid (HFa9.out.kept (tr hb10) (fun _ _ _ => trivial))
    have hF := Lib.hid (fields_same _ _ KA w10 (show Flds (fun _ => True) w10 (.slice o10 KA.length c10) KA from Flds.of_owns hown10 rfl (fun _ _ _ _ => trivial)) HFa10.out)
    clear hown10 HK HFa9
    go_wp2_with fail
    refine hF.out.mono ?_
    rintro e w11 ⟨rfl, hb11⟩
    have hb011 := hb010.trans (hb11.mono hs10)
    have hs11 := hb011.size
    have HFa11 := Lib.hid (HFa10.out.kept (tr hb11) (fun _ _ _ => trivial))
    have hD := drop_any _ KA w11 HFa11.out HLK.out (by omega) (he.kept hb011 (by omega)) (hT.kept hb011 (by omega)) (by omega)
    rw [HDK.out] at hD
    have HD := Lib.hid hD
    clear hF HFa10 hD
    go_wp2_with fail
    refine HD.out.mono ?_
    rintro e w12 ⟨o12, c12, rfl, _, hb12⟩
    have hb012 := hb011.trans (hb12.mono hs11)
    go_wp2
    go_ret
    exact ⟨rfl, hb012⟩
  · go_wp2
    go_ret
    exact ⟨rfl, hb02⟩
end Go.Proofs.YtmjnjjjhdcecbaaDoor
