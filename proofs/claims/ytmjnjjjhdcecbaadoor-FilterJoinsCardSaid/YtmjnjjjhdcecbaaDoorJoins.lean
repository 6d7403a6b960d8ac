/-
  The walk of FilterJoins.
-/
import Derived.Test.YtmjnjjjhdcecbaaDoorL
namespace Go.Proofs.YtmjnjjjhdcecbaaDoor
open Go.RowKit

theorem pick_append (b : Bool) (l m : List Fd) : pick b (l ++ m) = pick b l ++ pick b m := by unfold pick; exact List.filter_append ..

theorem lit_owns (W : World) (B : Nat) (hB : B ≤ W.heap.size) : (W.alloc (.cells #[] 42)).ownsRow B 42 2 (.slice (some ⟨W.heap.size, 0, none⟩) 0 0) 0 [] :=
  ⟨rfl, .inr ⟨W.heap.size, 0, #[], rfl, hB, World.alloc_heap_new W _, Nat.le_refl _, Nat.zero_le _, rfl, rfl⟩⟩

set_option maxRecDepth 100000 in
set_option maxHeartbeats 4000000 in
theorem joins_any (v1 v2 : Value) (A B : List Fd) (w : World) (hA : Flds (fun _ => True) w v1 A) (hB : Flds (fun _ => True) w v2 B) (hlA : ∀ f ∈ A, f.1.size ≤ 140737488351232 ∧ f.2.size ≤ 140737488351232)
    (hlB : ∀ f ∈ B, f.1.size ≤ 140737488351232 ∧ f.2.size ≤ 140737488351232) (he : Ends w) (hT : Tab w) (h2 : 1 < w.heap.size) :
    Calls Tryd.prog 5 #[v1, v2] w fun e w' => e = .returned (.bool true) ∧ Below w.heap.size w w' := by
  have tr : ∀ {W W' : World}, Below W.heap.size W W' → Frm (fun _ => True) W W' := fun hb => Frm.of_below hb (fun _ hq _ => hq)
  go_enter Tryd.func5, Tryd.ntmps5
  go_wp2_with fail
  refine (wakes_any w he hT (by omega)).mono ?_
  rintro e w1 ⟨rfl, hb1⟩
  have hA1 := hA.kept (tr hb1) (fun _ _ _ => trivial)
  have hB1 := hB.kept (tr hb1) (fun _ _ _ => trivial)
  have hGA := great_any v1 A w1 hA1 (fun f hf => by have := hlA f hf; omega)
  have hs1 := hb1.size
  go_wp2_with fail
  refine hGA.mono ?_
  rintro e w2 ⟨GA, rfl, hGt, hb2⟩
  have hb02 := hb1.trans (hb2.mono hs1)
  have hs2 := hb02.size
  cases GA
  · have hta := hGt rfl
    have hB2 := hB1.kept (tr hb2) (fun _ _ _ => trivial)
    have hA2 := hA1.kept (tr hb2) (fun _ _ _ => trivial)
    have hGB := great_any v2 B w2 hB2 (fun f hf => by have := hlB f hf; omega)
    clear hGA hGt
    go_wp2_with fail
    refine hGB.mono ?_
    rintro e w3 ⟨GB, rfl, hGt, hb3⟩
    have hb03 := hb02.trans (hb3.mono hs2)
    have hs3 := hb03.size
    cases GB
    · have htb := hGt rfl
      have hla := tot_len A
      have hlb := tot_len B
      have hA3 := Lib.hid (hA2.kept (tr hb3) (fun _ _ _ => trivial))
      have hB3 := Lib.hid (hB2.kept (tr hb3) (fun _ _ _ => trivial))
      have HlA := Lib.hid hlA
      have HlB := Lib.hid hlB
      clear hGB hGt hA hB hA1 hB1 hA2 hB2 hlA hlB
      go_wp2_with (at_builtin; refine wpList_append_flds rfl _ _ rfl w3.heap.size _ 0 [] rfl (lit_owns w3 _ (Nat.le_refl _)) _ A rfl (hA3.out.kept ((Frm.refl (fun _ => True) _).alloc _) (fun _ _ _ => trivial)) ?c1 ?c2 ?_)
      case c1 => omega
      case c2 => simp
      intro o5 c5 w5 hown5 hg5 _
      have hb5 : Below w3.heap.size w3 w5 := ((Below.refl _ _).alloc (Nat.le_refl _) _).grown hg5 (by simp) (fun q hq => by simp [Value.ownBlock] at hq; omega)
      have hB5 := Lib.hid (hB3.out.kept (tr hb5) (fun _ _ _ => trivial))
      have HO5 := Lib.hid hown5
      clear hown5 hg5
      go_wp2_with (at_builtin; refine wpList_append_flds rfl _ _ rfl w3.heap.size _ A.length (flat A) rfl HO5.out _ B rfl hB5.out ?c1 ?c2 ?_)
      case c1 => omega
      case c2 => exact hb5.size
      intro o6 c6 w6 hown6 hg6 _
      have hb6 : Below w3.heap.size w3 w6 := hb5.grown hg6 hb5.size (fun q hq => (World.ownsRow.lt HO5.out q hq).1)
      have hb06 := hb03.trans (hb6.mono hs3)
      have hs6 := hb06.size
      have hAll : Flds (fun _ => True) w6 (.slice o6 (A.length + B.length) c6) (A ++ B) := Flds.of_owns (by rw [flat_append]; exact hown6) (by simp) (fun _ _ _ _ => trivial)
      have hlAB : ∀ f ∈ A ++ B, f.1.size ≤ 140737488351232 := fun f hf => (List.mem_append.1 hf).elim (fun h => (HlA.out f h).1) (fun h => (HlB.out f h).1)
      have he6 := he.kept hb06 (by omega)
      have hT6 := hT.kept hb06 (by omega)
      have hK1 := Lib.hid (keep_any (.slice o6 (A.length + B.length) c6) (A ++ B) w6 hAll hlAB (by simp; omega) he6 hT6 (by omega))
      have hA6 := Lib.hid (hA3.out.kept (tr hb6) (fun _ _ _ => trivial))
      have hB6 := Lib.hid (hB3.out.kept (tr hb6) (fun _ _ _ => trivial))
      clear hown6 hg6 hAll hlAB hB5 hb5 HO5
      go_wp2_with fail
      refine hK1.out.mono ?_
      rintro e w7 ⟨o7, c7, rfl, hown7, hb7⟩
      have hb07 := hb06.trans (hb7.mono hs6)
      have hs7 := hb07.size
      have hF7 : Flds (fun q => q < w7.heap.size) w7 (.slice o7 (pick false (A ++ B)).length c7) (pick false (A ++ B)) := Flds.of_owns hown7 rfl (fun _ _ _ h => h)
      have HF7 := Lib.hid hF7
      have hb8 : Below w7.heap.size w7 (w7.alloc (.cells #[] 42)) := (Below.refl _ _).alloc (Nat.le_refl _) _
      have hb08 := hb07.trans (hb8.mono hs7)
      have hs8 := hb08.size
      have hA8 := hA6.out.kept (tr (hb7.trans (hb8.mono hb7.size))) (fun _ _ _ => trivial)
      have hK2 := Lib.hid (keep_any v1 A (w7.alloc (.cells #[] 42)) hA8 (fun f hf => (HlA.out f hf).1) (by omega) (he.kept hb08 (by omega)) (hT.kept hb08 (by omega)) (by omega))
      have HO8 := Lib.hid (lit_owns w7 w7.heap.size (Nat.le_refl _))
      have hs78 : (w7.alloc (.cells #[] 42)).heap.size = w7.heap.size + 1 := World.size_alloc _ _
      have HB8 := Lib.hid hb8
      have HB08 := Lib.hid hb08
      have HS8 := Lib.hid hs8
      have HS78 := Lib.hid hs78
      clear hown7 hF7 hA8 hb8 hb08 hs8 hs78 hK1
      go_wp2_with fail
      generalize hz8 : w7.heap.size = Z at *
      generalize w7.alloc (.cells #[] 42) = w8 at *
      refine hK2.out.mono ?_
      rintro e w9 ⟨o9, c9, rfl, hown9, hb9⟩
      have hb79 := HB8.out.trans (hb9.mono (by have := HS78.out; omega))
      have hO9 := owns_frm (ok := fun _ => True) HO8.out (tr hb9) (fun _ _ => trivial)
      have HO9 := Lib.hid hO9
      have hKA : Flds (fun _ => True) w9 (.slice o9 (pick false A).length c9) (pick false A) := Flds.of_owns hown9 rfl (fun _ _ _ _ => trivial)
      have HKA := Lib.hid hKA
      have hpa := pick_len false A
      have hpb := pick_len false B
      have hs9 := hb79.size
      clear hown9 hO9 hKA hK2
      go_wp2_with (at_builtin; refine wpList_append_flds rfl _ _ rfl Z _ 0 [] rfl HO9.out _ (pick false A) rfl HKA.out ?c1 ?c2 ?_)
      case c1 => omega
      case c2 => omega
      intro o10 c10 w10 hown10 hg10 _
      have hb710 : Below Z w7 w10 := hb79.grown hg10 (by omega) (fun q hq => (World.ownsRow.lt HO9.out q hq).1)
      have hb010 := hb07.trans (hb710.mono (by omega))
      have hs10 := hb710.size
      have HO10 := Lib.hid hown10
      have hB10 := hB6.out.kept (tr (hb7.trans (hb710.mono (by have := hb7.size; omega)))) (fun _ _ _ => trivial)
      have hK3 := Lib.hid (keep_any v2 B w10 hB10 (fun f hf => (HlB.out f hf).1) (by omega) (he.kept hb010 (by omega)) (hT.kept hb010 (by omega)) (by omega))
      clear hown10 hg10 hB10 HO9 HKA
      go_wp2_with fail
      refine hK3.out.mono ?_
      rintro e w11 ⟨o11, c11, rfl, hown11, hb11⟩
      have hO11 := owns_frm (ok := fun _ => True) HO10.out (tr hb11) (fun _ _ => trivial)
      have HO11 := Lib.hid hO11
      have hKB : Flds (fun _ => True) w11 (.slice o11 (pick false B).length c11) (pick false B) := Flds.of_owns hown11 rfl (fun _ _ _ _ => trivial)
      have HKB := Lib.hid hKB
      have hb711 := hb710.trans (hb11.mono (by omega))
      have hs11 := hb711.size
      clear hown11 hO11 hKB hK3
      go_wp2_with (at_builtin; refine wpList_append_flds rfl _ _ rfl Z _ (pick false A).length (flat (pick false A)) rfl HO11.out _ (pick false B) rfl HKB.out ?c1 ?c2 ?_)
      case c1 => omega
      case c2 => omega
      intro o12 c12 w12 hown12 hg12 _
      have hb712 : Below Z w7 w12 := hb711.grown hg12 (by omega) (fun q hq => (World.ownsRow.lt HO11.out q hq).1)
      have hb012 := hb07.trans (hb712.mono (by omega))
      have hF12 : Flds (fun _ => True) w12 (.slice o12 ((pick false A).length + (pick false B).length) c12) (pick false (A ++ B)) := by
        rw [pick_append]
        exact Flds.of_owns (by rw [flat_append]; exact hown12) (by simp) (fun _ _ _ _ => trivial)
      have hF7 := HF7.out.kept (ok' := fun q => q < Z) (Frm.of_below hb712 (fun q _ hq => hq)) (fun q _ hq => hq)
      have hFi := fields_same _ _ _ w12 hF7 hF12
      clear hown12 hg12 hF12 hF7 HF7 HO11 HKB
      have hs12 := hb012.size
      go_wp2_with fail
      refine hFi.mono ?_
      rintro e w13 ⟨rfl, hb13⟩
      have hb013 := hb012.trans (hb13.mono hs12)
      go_wp2
      go_ret
      exact ⟨rfl, hb013⟩
    · go_wp2
      go_ret
      exact ⟨rfl, hb03⟩
  · go_wp2
    go_ret
    exact ⟨rfl, hb02⟩
end Go.Proofs.YtmjnjjjhdcecbaaDoor
