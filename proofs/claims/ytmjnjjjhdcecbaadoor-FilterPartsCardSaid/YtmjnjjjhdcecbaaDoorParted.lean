/-
  The contract of filter.parted.
-/
import Derived.Test.YtmjnjjjhdcecbaaDoorJ
import Derived.Deep.LoopGhost
import Derived.ScopeJumps
namespace Go.Proofs.YtmjnjjjhdcecbaaDoor
open Go.RowKit Go.Shelf
attribute [local go_sem] Oper.semAt_some

set_option maxRecDepth 100000 in
set_option maxHeartbeats 4000000 in
theorem parted_any (v : Value) (L : List Fd) (w : World) (h : Flds (fun _ => True) w v L) (hl : ∀ f ∈ L, f.1.size ≤ 140737488351232) (hL : L.length ≤ 100000) (he : Ends w) (hT : Tab w) (h2 : 1 < w.heap.size) :
    Calls Tryd.prog 21 #[v] w fun e w' => ∃ kv dv, e = .returned (.tuple #[kv, dv]) ∧ w'.ownsRow w.heap.size 42 2 kv (pick false L).length (flat (pick false L)) ∧
      w'.ownsRow w.heap.size 42 2 dv (pick true L).length (flat (pick true L)) ∧ Below w.heap.size w w' := by
  obtain ⟨o, cap, rfl, hc1, ⟨hc2, _⟩, h4⟩ := h
  unfold maxLen at hc2
  have H4 := Lib.hid h4
  have HL := Lib.hid hl
  clear h4 hl
  refine (callsIn_wide (n := 4)).1 ?_
  refine callsIn_of_wp_marks Tryd.func21 rfl trivial ?_ rfl
  refine wpIn_wide.2 ?_
  simp only [Tryd.ntmps21, List.size_toArray, List.length_cons, List.length_nil, Nat.reduceAdd, Nat.reduceSub, Array.replicate_succ, Array.replicate_zero, List.push_toArray, List.append_toArray, List.nil_append, List.cons_append]
  go_wp2
  have hP0 : PSt w (w.alloc (.cells #[.slice none 0 0] 31)) (.slice none 0 0) (.slice none 0 0) [] [] [] := by
    refine ⟨⟨rfl, .inl ⟨rfl, rfl⟩⟩, World.alloc_heap_new w _, ⟨rfl, .inl ⟨rfl, rfl⟩⟩, fun q hq => by (cases hq), fun r hr => by (cases hr), List.nodup_nil, (Below.refl _ _).alloc (Nat.le_refl _) _⟩
  generalize w.alloc (.cells #[.slice none 0 0] 31) = w1 at *
  have HP0 := Lib.hid hP0
  clear hP0
  refine wp_scope_straight ?_
  go_wp2
  go_step3
  go_wp2
  refine wp_loop_ghost_k (fun n a W => ∃ (k : Nat) (kv dv : Value) (rs : List Nat) (u5 u6 u10 u11 u12 u13 u14 u15 u16 u17 u18 u19 u20 u21 u22 u23 u24 u25 u26 : Value), n = L.length - k ∧ k ≤ L.length ∧ PSt w W kv dv (pick false (L.take k)) (pick true (L.take k)) rs ∧
    a = { tmps := #[.slice o L.length cap, undef, kv, .pointer (some ⟨w.heap.size, 0, none⟩), undef, u5, u6, .slice o L.length cap, .int .i64 L.length, .int .i64 k, u10, u11, u12, u13, u14, u15, u16, u17, u18, u19, u20, u21, u22, u23, u24, u25, u26, undef, undef], defers := rs.map mark }) L.length ?start ?round
  case start => exact ⟨0, .slice none 0 0, .slice none 0 0, [], undef, undef, undef, undef, undef, undef, undef, undef, undef, undef, undef, undef, undef, undef, undef, undef, undef, undef, undef, rfl, Nat.zero_le _, HP0.out, rfl⟩
  case round =>
    rintro n a W ⟨k, kv, dv, rs, u5, u6, u10, u11, u12, u13, u14, u15, u16, u17, u18, u19, u20, u21, u22, u23, u24, u25, u26, rfl, hk, hP, rfl⟩ J K hJ hK
    by_cases hlt : k < L.length
    · have hl0 : L ≠ [] := by intro e; rw [e] at hlt; simp at hlt
      obtain ⟨b, off, rfl, _, hbs, hc⟩ := H4.out hl0
      have c0 := (hP.below.cell (p := ⟨b, off + k * 2, none⟩) hbs).trans (hc k hlt).1
      have c1 := (hP.below.cell (p := ⟨b, off + k * 2 + 1, none⟩) hbs).trans (hc k hlt).2
      have p0 := HL.out _ (getD_mem hlt)
      have hpt := pick_take (b := true) hlt
      have hpf := pick_take (b := false) hlt
      have hfd : L.getD k nofd = ((L.getD k nofd).1, (L.getD k nofd).2) := rfl
      rw [hfd] at hpt hpf
      generalize (L.getD k nofd).1 = m0 at *
      generalize (L.getD k nofd).2 = m1 at *
      have hkl := pick_len false (L.take k)
      have hdl := pick_len true (L.take k)
      rw [List.length_take] at hkl hdl
      generalize pick false (L.take k) = Kl at *
      generalize pick true (L.take k) = Dl at *
      have HPT := Lib.hid hpt
      have HPF := Lib.hid hpf
      have HP := Lib.hid hP
      clear hc hfd hpt hpf hP
      go_wp2_with (refine (names_any _).mono ?_; rintro e w' ⟨rfl, rfl⟩)
      have hbi : Below W.heap.size W (W.alloc (.cells #[.string m0, .string m1] 42)) := (Below.refl _ _).alloc (Nat.le_refl _) _
      have hxi : (W.alloc (.cells #[.string m0, .string m1] 42)).heap[W.heap.size]? = some (.cells #[.string m0, .string m1] 42 (0, 0)) := World.alloc_heap_new W _
      have hPi := HP.out.kept hbi
      have hzi : (W.alloc (.cells #[.string m0, .string m1] 42)).heap.size = W.heap.size + 1 := World.size_alloc _ _
      have hrs : ∀ r ∈ rs, r < W.heap.size := fun r hr => lt_of_block (HP.out.marks r hr).2
      generalize W.alloc (.cells #[.string m0, .string m1] 42) = wi at *
      generalize W.heap.size = X at *
      have hzw := hPi.below.size
      have hei : Ends wi := he.kept hPi.below (by omega)
      have hTi : Tab wi := hT.kept hPi.below (by omega)
      have HPI := Lib.hid hPi
      clear hPi HP c0 c1 hbi
      refine (wpIn_wide (n := 4)).1 ?_
      refine wpIn_rangeFunc_ownG rfl (by omega) (gf := 20) (lb := #[]) rfl trivial (enters_of Tryd.func20 (by kernel_rfl) rfl)
        (names_stops Fence.wide _ trivial rfl (by omega) wi.heap.size wi hTi (by omega)) belowK_t (belowK_b (Nat.le_refl _)) (Below.refl _ _) (fun _ => rfl)
        (fun (pre : List Name28) W' => (pre.any (fun y => alikeB y.1 m0)) = false ∧ Below wi.heap.size wi W')
        (fun c (pre : List Name28) W' => (c = .exit 1 ∧ (pre.any (fun y => alikeB y.1 m0)) = true) ∧ ∃ dv', PSt w W' kv dv' Kl (Dl ++ [(m0, m1)]) rs)
        (OwnFrom.and (Own.from (fun s A B row hs hg hr => hs) _) (ownFrom_below (Nat.le_refl _) (Nat.le_refl _)))
        (fun c s A B row hs hg hr => ⟨hs.1, hs.2.elim fun dv' hd => ⟨dv', hd.own hzw (fun r hr => by have := hrs r hr; omega) hg hr⟩⟩)
        ⟨rfl, Below.refl _ _⟩
        (fun x => { tmps := #[.slice (some ⟨b, off, none⟩) L.length cap, undef, kv, .pointer (some ⟨w.heap.size, 0, none⟩), undef, .pointer (some ⟨X, 0, none⟩), .string x.1, .slice (some ⟨b, off, none⟩) L.length cap, .int .i64 L.length, .int .i64 k, .bool true, .pointer (some ⟨b, off + k * 2, none⟩), .agg #[.string m0, .string m1], .func (.func 20) #[] #[], .string x.1, u15, u16, u17, u18, u19, u20, u21, u22, u23, u24, u25, u26, undef, undef], defers := [] }) ?assign ?body ?done ?stop
      case assign =>
        intro l x W' K' hK'
        gi_wp2
        exact hK'
      case body =>
        rintro l pre x W' ⟨hp, hB⟩ _
        have hsz := hB.size
        have hx := names_size x.1 x.2
        have hEW : Ends W' := hei.kept hB (by omega)
        have hal := is_any m0 m1 x.1 W' (by unfold maxLen; omega) (by unfold maxLen; omega) hEW (by omega)
        have hxW : W'.heap[X]? = some (.cells #[.string m0, .string m1] 42 (0, 0)) := (hB.block X (by omega)).trans hxi
        have y0 : W'.cell? ⟨X, 0, none⟩ = some (.string m0) := by simp [World.cell?, hxW]
        have y1 : W'.cell? ⟨X, 1, none⟩ = some (.string m1) := by simp [World.cell?, hxW]
        have hPW := HPI.out.kept hB
        have HPW := Lib.hid hPW
        have hcomm : alikeB m0 x.1 = alikeB x.1 m0 := by unfold alikeB; exact BEq.comm
        have hany : ((pre ++ [x]).any fun y => alikeB y.1 m0) = alikeB x.1 m0 := by rw [List.any_append, hp]; simp
        clear hPW hxW
        rw [hcomm] at hal
        cases hq : alikeB x.1 m0
        · rw [hq] at hal hany
          have HA := Lib.hid hany
          clear hany hq hp hcomm
          gi_wp2_with fail
          refine ⟨trivial, ?_⟩
          gi_at_call 23
          refine (CallsIn.inRound l (callsIn_wide.2 hal)).mono ?_
          rintro e w' ⟨rfl, hb'⟩
          gi_wp2
          exact ⟨keepsFrom_of_below hb', hb'.mono hsz, HA.out, hB.trans (hb'.mono hsz)⟩
        · rw [hq] at hal hany
          have HA := Lib.hid hany
          clear hany hq hp hcomm
          gi_wp2_with fail
          refine ⟨trivial, ?_⟩
          gi_at_call 23
          refine (CallsIn.inRound l (callsIn_wide.2 hal)).mono ?_
          rintro e w2 ⟨rfl, hb2⟩
          have hP2 := HPW.out.kept hb2
          have z0 := (hb2.cell (p := ⟨X, 0, none⟩) (by show X < _; omega)).trans y0
          have z1 := (hb2.cell (p := ⟨X, 1, none⟩) (by show X < _; omega)).trans y1
          have d0 := cell_of_one hP2.cell
          have HP2 := Lib.hid hP2
          have hs2 := hb2.size
          clear hP2 y0 y1 HPW
          gi_wp2_with (gi_at_builtin; refine wpListIn_append_flds rfl _ _ rfl w.heap.size _ Dl.length (flat Dl) rfl (owns_frm (ok := fun _ => True) HP2.out.drop ((Frm.refl _ _).alloc _) (fun _ _ => trivial)) _ [(m0, m1)] rfl (Flds.one m0 m1 (World.alloc_heap_new _ _)) ?c1 ?c2 ?_)
          case c1 => simp; omega
          case c2 => simp; omega
          intro o' c' w3 hown hgrow hat
          have hPd := HP2.out.dropAdd (D' := Dl ++ [(m0, m1)]) (by rw [flat_append, List.length_append]; exact hown) hgrow (by rw [World.size_alloc]; exact hat)
          have hcell := HP2.out.dropCell hgrow
          have e0 := cell_of_one hcell
          have e1 := free_of_one hcell
          have hkf : KeepsFrom wi.heap.size w2 w3 := ((KeepsOthers.alloc w2 _).trans (KeepsOthers.of_grownBy hgrow (fun j o hj ho => by
            obtain ⟨cs, hcs⟩ := own_cells HP2.out.drop hj
            have h1 := (World.ownsRow.lt HP2.out.drop j hj).2
            rw [Below.heap_alloc w2 _ j h1, hcs] at ho
            cases ho
            rfl))).from _
          have HPD := Lib.hid hPd
          clear hPd hown hgrow hat hcell d0
          gi_wp2
          exact ⟨((keepsFrom_of_below hb2).trans hkf).trans ((KeepsOthers.setCell _ _ _).from _), ⟨rfl, HA.out⟩, _, HPD.out⟩
      case done =>
        rintro D ys W' hD rfl ⟨hne, hB⟩ hK'
        have hf : forb m0 = false := by
          unfold forb
          rw [← namesA_map, List.any_map]
          exact hne
        have hpt := HPT.out
        have hpf := HPF.out
        rw [hf] at hpt hpf
        rw [if_neg (by decide)] at hpt
        rw [if_pos rfl] at hpf
        have hPW := HPI.out.kept hB
        have hrD : D ∉ rs := fun e => by have := hrs D e; omega
        have hP1 : PSt w W' kv dv Kl Dl (D :: rs) := ⟨hPW.keep, hPW.cell, hPW.drop, hPW.apart, fun r hr => (List.mem_cons.1 hr).elim (fun e => by subst e; exact ⟨by omega, hK'⟩) (hPW.marks r), List.nodup_cons.2 ⟨hrD, hPW.nodup⟩, hPW.below⟩
        have hxW : W'.heap[X]? = some (.cells #[.string m0, .string m1] 42 (0, 0)) := (hB.block X (by omega)).trans hxi
        have y0 : W'.cell? ⟨X, 0, none⟩ = some (.string m0) := by simp [World.cell?, hxW]
        have y1 : W'.cell? ⟨X, 1, none⟩ = some (.string m1) := by simp [World.cell?, hxW]
        have hz1 := hP1.below.size
        have HP1 := Lib.hid hP1
        have HPT' := Lib.hid hpt
        have HPF' := Lib.hid hpf
        clear hP1 hPW hpt hpf HPT HPF hxW hne hK'
        simp only [Exit.inBlock, Exit.then]
        go_wp2_with (at_builtin; refine wpList_append_flds rfl _ _ rfl w.heap.size _ Kl.length (flat Kl) rfl (owns_frm (ok := fun _ => True) HP1.out.keep ((Frm.refl _ _).alloc _) (fun _ _ => trivial)) _ [(m0, m1)] rfl (Flds.one m0 m1 (World.alloc_heap_new _ _)) ?c1 ?c2 ?_)
        case c1 => simp; omega
        case c2 => simp; omega
        intro o' c' w3 hown hgrow hat
        have hPk := HP1.out.keepAdd (K' := Kl ++ [(m0, m1)]) (by rw [flat_append, List.length_append]; exact hown) hgrow (by rw [World.size_alloc]; exact hat)
        have HPK := Lib.hid hPk
        clear hPk hown hgrow hat
        go_wp2
        exact ⟨L.length - (k + 1), by omega, hJ _ _ _ ⟨k + 1, _, dv, D :: rs, _, _, _, _, _, _, _, _, _, _, _, _, _, _, _, _, _, _, _, rfl, by omega, by rw [HPT'.out, HPF'.out]; exact HPK.out, rfl⟩⟩
      case stop =>
        rintro D c pre W' hD hpre ⟨⟨rfl, hin⟩, dv', hP'⟩ hK'
        have hf : forb m0 = true := by
          unfold forb
          rw [← namesA_map, List.any_map]
          rw [List.any_eq_true] at hin ⊢
          obtain ⟨y, hy, hq⟩ := hin
          exact ⟨y, hpre.subset hy, hq⟩
        have hpt := HPT.out
        have hpf := HPF.out
        rw [hf] at hpt hpf
        rw [if_pos rfl] at hpt
        rw [if_neg (by decide)] at hpf
        have hrD : D ∉ rs := fun e => by have := hrs D e; omega
        have hP1 : PSt w W' kv dv' Kl (Dl ++ [(m0, m1)]) (D :: rs) := ⟨hP'.keep, hP'.cell, hP'.drop, hP'.apart, fun r hr => (List.mem_cons.1 hr).elim (fun e => by subst e; exact ⟨by omega, hK'⟩) (hP'.marks r), List.nodup_cons.2 ⟨hrD, hP'.nodup⟩, hP'.below⟩
        have HP1 := Lib.hid hP1
        have HPT' := Lib.hid hpt
        have HPF' := Lib.hid hpf
        clear hP1 hP' hpt hpf HPT HPF hin hK'
        refine wpIn_wide.2 ?_
        go_wp2
        exact ⟨L.length - (k + 1), by omega, hJ _ _ _ ⟨k + 1, kv, dv', D :: rs, _, _, _, _, _, _, _, _, _, _, _, _, _, _, _, _, _, _, _, rfl, by omega, by rw [HPT'.out, HPF'.out]; exact HP1.out, rfl⟩⟩
    · obtain rfl : k = L.length := by omega
      rw [List.take_length] at hP
      have HP := Lib.hid hP
      clear hP
      obtain ⟨od, cd, rfl⟩ := owns_form HP.out.drop
      have d0 := cell_of_one HP.out.cell
      have d1 := free_of_one HP.out.cell
      go_wp2_with fail
      go_region
      have hPr := HP.out.reset
      generalize (W.setCell ⟨w.heap.size, 0, none⟩ (.slice od (pick true L).length cd)).drew = W2 at *
      simp only [Exit.then]
      go_wp2
      rw [Exit.noGoto_ret]
      refine marks_leave rs W2 hPr.nodup (fun r hr => (hPr.marks r hr).2) (fun W3 hW3 => ?_)
      have hP3 := hPr.left hW3
      have hc5 := cell_of_one hP3.cell
      refine ⟨.tuple #[kv, .slice od (pick true L).length cd], ?_, kv, _, rfl, hP3.keep, hP3.drop, hP3.below⟩
      simp [results, Tryd.f21, go_sem, hc5]
end Go.Proofs.YtmjnjjjhdcecbaaDoor
