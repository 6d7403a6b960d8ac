/-
  The contract of told.
-/
import Derived.Test.YtmgkomobamjneaaM
import Derived.IntWalk
namespace Go.Proofs.Ytmgkomobamjneaa
open Go.RowKit

theorem free_frm (b g N h : Nat) (l : List UInt8) (w : World) (hr : Rng w b g N h l) : Calls Try.prog 12 #[.pointer (some ⟨b, 0, none⟩)] w fun e w' => e = .returned (.int .i64 ((N : Int) - l.length)) ∧ Frm (fun _ => True) w w' := by
  refine (free_any b g N h l w hr).mono ?_
  rintro e w' ⟨rfl, n, rfl⟩
  exact ⟨rfl, frm_drewN (Frm.refl _ _) n⟩

set_option maxRecDepth 100000 in
set_option maxHeartbeats 8000000 in
theorem told_far {ok : Nat → Prop} (b g N h : Nat) (a : Addr) (c k : Nat) (l : List UInt8) (w : World) (hr : Rng w b g N h l) (hT : Bytes ok w (.slice (some a) k c) (l.take k)) (hD : Bytes ok w (.slice (some (a.add k)) (l.length - k) (c - k)) (l.drop k)) (hk : k = fst N h l.length) (hkc : k < c) (hc : c ≤ 9223372036854775807) :
    Calls Try.prog 21 #[.pointer (some ⟨b, 0, none⟩), .agg #[.int .i64 N, .int .i64 h, .slice (some a) l.length c]] w fun e w' => e = .returned (.bool true) ∧ Below w.heap.size w w' := by
  have hbd := hr.bd
  have hF1 := (Frm.refl (fun _ => True) w).alloc (.cells #[.int .i64 N, .int .i64 h, .slice (some a) l.length c] 47)
  have hr1 := hr.kept hF1 trivial trivial
  have hT1 := hT.kept hF1 (fun _ _ _ => trivial)
  have hD1 := hD.kept hF1 (fun _ _ _ => trivial)
  have hx1 : (w.alloc (.cells #[.int .i64 N, .int .i64 h, .slice (some a) l.length c] 47)).heap[w.heap.size]? = some (.cells #[.int .i64 N, .int .i64 h, .slice (some a) l.length c] 47 (0, 0)) := World.alloc_heap_new w _
  have hB1 : Below w.heap.size w (w.alloc (.cells #[.int .i64 N, .int .i64 h, .slice (some a) l.length c] 47)) := (Below.refl _ _).alloc (Nat.le_refl _) _
  have hSp := fun (W : World) (h1 : Rng W b g N h l) => spans_any b g N h l W h1
  have hFi := fun (W : World) => refFirst_any N h (some a) l.length c W (by omega) (by omega)
  rw [← hk] at hSp hFi
  have hkl : k ≤ l.length := by rw [hk]; exact fst_le N h l.length
  have HSp := Lib.hid hSp
  have HFi := Lib.hid hFi
  have HR1 := Lib.hid hr1
  have HT1 := Lib.hid hT1
  have HD1 := Lib.hid hD1
  have HX1 := Lib.hid hx1
  have htl : ((l.take k)).length = k := by rw [List.length_take]; omega
  have hdl : ((l.drop k)).length = (l.length - k) := List.length_drop
  have HTL := Lib.hid htl
  have HDL := Lib.hid hdl
  have hlx : (l : List UInt8).length ≤ N := hbd.2.1
  clear hk hSp hFi hr1 hT1 hD1 hx1 hF1 hr hT hD htl hdl
  go_enter Try.func21, Try.ntmps21
  go_wp2_with fail
  generalize (w.alloc (.cells #[.int .i64 N, .int .i64 h, .slice (some a) l.length c] 47)) = w1 at *
  refine (HSp.out w1 HR1.out).mono ?_
  rintro e w6 ⟨oa, ca, ob, cb, w5, rfl, hown5, hown6, hB5, hB6⟩
  have hz1 := hB1.size
  have hz5 := hB5.size
  have F5 := Frm.of_below (ok := fun _ => True) hB5 (fun q hq _ => hq)
  have F6 := Frm.of_below (ok := fun _ => True) hB6 (fun q hq _ => hq)
  have F16 := F5.trans F6
  have hba : Bytes (fun _ => True) w6 (.slice oa k ca) ((l.take k)) := (Bytes.of_owns (ok := fun _ => True) hown5 HTL.out.symm (fun _ _ _ => trivial)).kept F6 (fun _ _ _ => trivial)
  have hbb : Bytes (fun _ => True) w6 (.slice ob (l.length - k) cb) ((l.drop k)) := Bytes.of_owns (ok := fun _ => True) hown6 HDL.out.symm (fun _ _ _ => trivial)
  have hx6 := frm_block F16 HX1.out trivial
  obtain ⟨x0, x1, x2, _⟩ := row3 hx6
  have hb16 := (hB1.trans (hB5.mono hz1)).trans (hB6.mono (Nat.le_trans hz1 hz5))
  have HX6 := Lib.hid hx6
  have HBA := Lib.hid hba
  have HBB := Lib.hid hbb
  have HR6 := Lib.hid (HR1.out.kept F16 trivial trivial)
  have HT6 := Lib.hid (HT1.out.kept F16 (fun _ _ _ => trivial))
  have HD6 := Lib.hid (HD1.out.kept F16 (fun _ _ _ => trivial))
  clear hown5 hown6 hx6 hba hbb F5 F6 F16 hB5 hB6
  go_wp2_with fail
  refine (HFi.out w6).mono ?_
  rintro e w7 ⟨rfl, hB7⟩
  have hk0 : (0 : Int) ≤ (k : Int) := by omega
  have hk1 : (k : Int) ≤ (c : Int) := by omega
  have hk2 : (k : Int) ≤ (l.length : Int) := by omega
  have hk3 : ¬ c = k := by omega
  have hwr : IntKind.i64.wrap ((N : Int) - (l.length : Int)) = (N : Int) - (l.length : Int) := IntWalk.i64_in _ (by omega)
  have F7 := Frm.of_below (ok := fun _ => True) hB7 (fun q hq _ => hq)
  have hSZ : ∀ w', Frm (fun _ => True) w7 w' → (w'.cell? ⟨w.heap.size, 0, none⟩ = some (.int .i64 N) ∧ w'.cell? ⟨w.heap.size, 1, none⟩ = some (.int .i64 h) ∧ w'.cell? ⟨w.heap.size, 2, none⟩ = some (.slice (some a) l.length c)) := fun w' hf => by
    have e := row3 (frm_block (F7.trans hf) HX6.out trivial)
    exact ⟨e.1, e.2.1, e.2.2.1⟩
  have HSZ := Lib.hid hSZ
  have HR7 := Lib.hid (HR6.out.kept F7 trivial trivial)
  have HF7 := Lib.hid F7
  obtain ⟨z0, z1, z2⟩ := hSZ _ (Frm.refl _ _)
  clear hSZ x0 x1 x2 F7
  have hb17 := hb16.trans (hB7.mono hb16.size)
  go_wp2_with fail
  go_region_held3 (fun w' => w'.cell? ⟨w.heap.size, 0, none⟩ = some (.int .i64 N) ∧ w'.cell? ⟨w.heap.size, 1, none⟩ = some (.int .i64 h) ∧ w'.cell? ⟨w.heap.size, 2, none⟩ = some (.slice (some a) l.length c))
    (first | exact HSZ.out _ FC | exact HSZ.out _ FB | exact HSZ.out _ FA | exact HSZ.out _ (Frm.refl _ _) | exact HSZ.out _ (Frm.refl _ _).drew)
    (first
      | (go_at_call 11; (with_reducible refine (len_any b g N h l _ ?_).mono ?_); exact HR7.out.kept (Frm.refl (fun _ => True) _).drew trivial trivial; rintro e w8 ⟨rfl, rfl⟩)
      | (go_at_call 12; (with_reducible refine (free_frm b g N h l _ ?_).mono ?_); exact HR7.out.kept (Frm.refl (fun _ => True) _).drew trivial trivial; rintro e w9 ⟨rfl, hf9⟩; have FA : Frm (fun _ => True) w7 w9 := hf9.undrew)
      | (go_at_call 18; (with_reducible refine (head_any b g N h l _ ?_).mono ?_); exact HR7.out.kept FA trivial trivial; rintro e w10 ⟨rfl, rfl⟩)
      | (go_at_call 14; (with_reducible refine (same_any (ok := fun _ => True) (ok' := ok) (.slice oa k ca) (.slice (some a) k c) ((l.take k)) _ ?_ ?_ (by rw [HTL.out]; omega)).mono ?_); exact HBA.out.kept (HF7.out.trans FA) (fun _ _ _ => trivial); exact HT6.out.kept (HF7.out.trans FA) (fun _ _ _ => trivial); rintro e w11 ⟨rfl, hB11⟩; have FB : Frm (fun _ => True) w7 w11 := FA.trans (Frm.of_below hB11 (fun q hq _ => hq)))
      | (go_at_call 14; (with_reducible refine (same_any (ok := fun _ => True) (ok' := ok) (.slice ob (l.length - k) cb) (.slice (some (a.add k)) (l.length - k) (c - k)) ((l.drop k)) _ ?_ ?_ (by rw [HDL.out]; omega)).mono ?_); exact HBB.out.kept (HF7.out.trans FB) (fun _ _ _ => trivial); exact HD6.out.kept (HF7.out.trans FB) (fun _ _ _ => trivial); rintro e w12 ⟨rfl, hB12⟩; have FC : Frm (fun _ => True) w7 w12 := FB.trans (Frm.of_below hB12 (fun q hq _ => hq))))
  have hbF := below_frm hb17 hb17.size FC (fun _ _ => trivial)
  go_wp2
  go_ret
  exact ⟨rfl, hbF⟩

set_option maxRecDepth 100000 in
set_option maxHeartbeats 8000000 in
theorem told_near {ok : Nat → Prop} (b g N h : Nat) (a : Addr) (k : Nat) (l : List UInt8) (w : World) (hr : Rng w b g N h l) (hT : Bytes ok w (.slice (some a) k k) (l.take k)) (hD : Bytes ok w (.slice (some a) (l.length - k) 0) (l.drop k)) (hk : k = fst N h l.length) :
    Calls Try.prog 21 #[.pointer (some ⟨b, 0, none⟩), .agg #[.int .i64 N, .int .i64 h, .slice (some a) l.length k]] w fun e w' => e = .returned (.bool true) ∧ Below w.heap.size w w' := by
  have hbd := hr.bd
  have hF1 := (Frm.refl (fun _ => True) w).alloc (.cells #[.int .i64 N, .int .i64 h, .slice (some a) l.length k] 47)
  have hr1 := hr.kept hF1 trivial trivial
  have hT1 := hT.kept hF1 (fun _ _ _ => trivial)
  have hD1 := hD.kept hF1 (fun _ _ _ => trivial)
  have hx1 : (w.alloc (.cells #[.int .i64 N, .int .i64 h, .slice (some a) l.length k] 47)).heap[w.heap.size]? = some (.cells #[.int .i64 N, .int .i64 h, .slice (some a) l.length k] 47 (0, 0)) := World.alloc_heap_new w _
  have hB1 : Below w.heap.size w (w.alloc (.cells #[.int .i64 N, .int .i64 h, .slice (some a) l.length k] 47)) := (Below.refl _ _).alloc (Nat.le_refl _) _
  have hSp := fun (W : World) (h1 : Rng W b g N h l) => spans_any b g N h l W h1
  have hFi := fun (W : World) => refFirst_any N h (some a) l.length k W (by omega) (by omega)
  rw [← hk] at hSp hFi
  have hkl : k ≤ l.length := by rw [hk]; exact fst_le N h l.length
  have HSp := Lib.hid hSp
  have HFi := Lib.hid hFi
  have HR1 := Lib.hid hr1
  have HT1 := Lib.hid hT1
  have HD1 := Lib.hid hD1
  have HX1 := Lib.hid hx1
  have htl : ((l.take k)).length = k := by rw [List.length_take]; omega
  have hdl : ((l.drop k)).length = (l.length - k) := List.length_drop
  have HTL := Lib.hid htl
  have HDL := Lib.hid hdl
  have hlx : (l : List UInt8).length ≤ N := hbd.2.1
  clear hk hSp hFi hr1 hT1 hD1 hx1 hF1 hr hT hD htl hdl
  go_enter Try.func21, Try.ntmps21
  go_wp2_with fail
  generalize (w.alloc (.cells #[.int .i64 N, .int .i64 h, .slice (some a) l.length k] 47)) = w1 at *
  refine (HSp.out w1 HR1.out).mono ?_
  rintro e w6 ⟨oa, ca, ob, cb, w5, rfl, hown5, hown6, hB5, hB6⟩
  have hz1 := hB1.size
  have hz5 := hB5.size
  have F5 := Frm.of_below (ok := fun _ => True) hB5 (fun q hq _ => hq)
  have F6 := Frm.of_below (ok := fun _ => True) hB6 (fun q hq _ => hq)
  have F16 := F5.trans F6
  have hba : Bytes (fun _ => True) w6 (.slice oa k ca) ((l.take k)) := (Bytes.of_owns (ok := fun _ => True) hown5 HTL.out.symm (fun _ _ _ => trivial)).kept F6 (fun _ _ _ => trivial)
  have hbb : Bytes (fun _ => True) w6 (.slice ob (l.length - k) cb) ((l.drop k)) := Bytes.of_owns (ok := fun _ => True) hown6 HDL.out.symm (fun _ _ _ => trivial)
  have hx6 := frm_block F16 HX1.out trivial
  obtain ⟨x0, x1, x2, _⟩ := row3 hx6
  have hb16 := (hB1.trans (hB5.mono hz1)).trans (hB6.mono (Nat.le_trans hz1 hz5))
  have HX6 := Lib.hid hx6
  have HBA := Lib.hid hba
  have HBB := Lib.hid hbb
  have HR6 := Lib.hid (HR1.out.kept F16 trivial trivial)
  have HT6 := Lib.hid (HT1.out.kept F16 (fun _ _ _ => trivial))
  have HD6 := Lib.hid (HD1.out.kept F16 (fun _ _ _ => trivial))
  clear hown5 hown6 hx6 hba hbb F5 F6 F16 hB5 hB6
  go_wp2_with fail
  refine (HFi.out w6).mono ?_
  rintro e w7 ⟨rfl, hB7⟩
  have hk0 : (0 : Int) ≤ (k : Int) := by omega
  have hk2 : (k : Int) ≤ (l.length : Int) := by omega
  have hwr : IntKind.i64.wrap ((N : Int) - (l.length : Int)) = (N : Int) - (l.length : Int) := IntWalk.i64_in _ (by omega)
  have F7 := Frm.of_below (ok := fun _ => True) hB7 (fun q hq _ => hq)
  have hSZ : ∀ w', Frm (fun _ => True) w7 w' → (w'.cell? ⟨w.heap.size, 0, none⟩ = some (.int .i64 N) ∧ w'.cell? ⟨w.heap.size, 1, none⟩ = some (.int .i64 h) ∧ w'.cell? ⟨w.heap.size, 2, none⟩ = some (.slice (some a) l.length k)) := fun w' hf => by
    have e := row3 (frm_block (F7.trans hf) HX6.out trivial)
    exact ⟨e.1, e.2.1, e.2.2.1⟩
  have HSZ := Lib.hid hSZ
  have HR7 := Lib.hid (HR6.out.kept F7 trivial trivial)
  have HF7 := Lib.hid F7
  obtain ⟨z0, z1, z2⟩ := hSZ _ (Frm.refl _ _)
  clear hSZ x0 x1 x2 F7
  have hb17 := hb16.trans (hB7.mono hb16.size)
  go_wp2_with fail
  go_region_held3 (fun w' => w'.cell? ⟨w.heap.size, 0, none⟩ = some (.int .i64 N) ∧ w'.cell? ⟨w.heap.size, 1, none⟩ = some (.int .i64 h) ∧ w'.cell? ⟨w.heap.size, 2, none⟩ = some (.slice (some a) l.length k))
    (first | exact HSZ.out _ FC | exact HSZ.out _ FB | exact HSZ.out _ FA | exact HSZ.out _ (Frm.refl _ _) | exact HSZ.out _ (Frm.refl _ _).drew)
    (first
      | (go_at_call 11; (with_reducible refine (len_any b g N h l _ ?_).mono ?_); exact HR7.out.kept (Frm.refl (fun _ => True) _).drew trivial trivial; rintro e w8 ⟨rfl, rfl⟩)
      | (go_at_call 12; (with_reducible refine (free_frm b g N h l _ ?_).mono ?_); exact HR7.out.kept (Frm.refl (fun _ => True) _).drew trivial trivial; rintro e w9 ⟨rfl, hf9⟩; have FA : Frm (fun _ => True) w7 w9 := hf9.undrew)
      | (go_at_call 18; (with_reducible refine (head_any b g N h l _ ?_).mono ?_); exact HR7.out.kept FA trivial trivial; rintro e w10 ⟨rfl, rfl⟩)
      | (go_at_call 14; (with_reducible refine (same_any (ok := fun _ => True) (ok' := ok) (.slice oa k ca) (.slice (some a) k k) ((l.take k)) _ ?_ ?_ (by rw [HTL.out]; omega)).mono ?_); exact HBA.out.kept (HF7.out.trans FA) (fun _ _ _ => trivial); exact HT6.out.kept (HF7.out.trans FA) (fun _ _ _ => trivial); rintro e w11 ⟨rfl, hB11⟩; have FB : Frm (fun _ => True) w7 w11 := FA.trans (Frm.of_below hB11 (fun q hq _ => hq)))
      | (go_at_call 14; (with_reducible refine (same_any (ok := fun _ => True) (ok' := ok) (.slice ob (l.length - k) cb) (.slice (some a) (l.length - k) 0) ((l.drop k)) _ ?_ ?_ (by rw [HDL.out]; omega)).mono ?_); exact HBB.out.kept (HF7.out.trans FB) (fun _ _ _ => trivial); exact HD6.out.kept (HF7.out.trans FB) (fun _ _ _ => trivial); rintro e w12 ⟨rfl, hB12⟩; have FC : Frm (fun _ => True) w7 w12 := FB.trans (Frm.of_below hB12 (fun q hq _ => hq))))
  have hbF := below_frm hb17 hb17.size FC (fun _ _ => trivial)
  go_wp2
  go_ret
  exact ⟨rfl, hbF⟩

set_option maxRecDepth 100000 in
set_option maxHeartbeats 8000000 in
theorem told_nil {ok : Nat → Prop} (b g N h : Nat)  (w : World) (hr : Rng w b g N h ([] : List UInt8)) (hT : Bytes ok w (.slice none 0 0) ([] : List UInt8)) (hD : Bytes ok w (.slice none 0 0) ([] : List UInt8))  :
    Calls Try.prog 21 #[.pointer (some ⟨b, 0, none⟩), .agg #[.int .i64 N, .int .i64 h, .slice none 0 0]] w fun e w' => e = .returned (.bool true) ∧ Below w.heap.size w w' := by
  have hbd := hr.bd
  have hF1 := (Frm.refl (fun _ => True) w).alloc (.cells #[.int .i64 N, .int .i64 h, .slice none 0 0] 47)
  have hr1 := hr.kept hF1 trivial trivial
  have hT1 := hT.kept hF1 (fun _ _ _ => trivial)
  have hD1 := hD.kept hF1 (fun _ _ _ => trivial)
  have hx1 : (w.alloc (.cells #[.int .i64 N, .int .i64 h, .slice none 0 0] 47)).heap[w.heap.size]? = some (.cells #[.int .i64 N, .int .i64 h, .slice none 0 0] 47 (0, 0)) := World.alloc_heap_new w _
  have hB1 : Below w.heap.size w (w.alloc (.cells #[.int .i64 N, .int .i64 h, .slice none 0 0] 47)) := (Below.refl _ _).alloc (Nat.le_refl _) _
  have hSp := fun (W : World) (h1 : Rng W b g N h ([] : List UInt8)) => spans_any b g N h ([] : List UInt8) W h1
  have hFi := fun (W : World) => refFirst_any N h none 0 0 W (by omega) (by omega)
  have hz0 : fst N h 0 = 0 := by unfold fst; simp
  simp only [List.length_nil, hz0, Nat.sub_self, List.take_nil, List.drop_nil, Int.natCast_zero] at hSp hFi
  have HSp := Lib.hid hSp
  have HFi := Lib.hid hFi
  have HR1 := Lib.hid hr1
  have HT1 := Lib.hid hT1
  have HD1 := Lib.hid hD1
  have HX1 := Lib.hid hx1
  have htl : (([] : List UInt8)).length = 0 := rfl
  have hdl : (([] : List UInt8)).length = 0 := rfl
  have HTL := Lib.hid htl
  have HDL := Lib.hid hdl
  have hlx : (([] : List UInt8) : List UInt8).length ≤ N := hbd.2.1
  clear hSp hFi hr1 hT1 hD1 hx1 hF1 hr hT hD htl hdl
  go_enter Try.func21, Try.ntmps21
  go_wp2_with fail
  generalize (w.alloc (.cells #[.int .i64 N, .int .i64 h, .slice none 0 0] 47)) = w1 at *
  refine (HSp.out w1 HR1.out).mono ?_
  rintro e w6 ⟨oa, ca, ob, cb, w5, rfl, hown5, hown6, hB5, hB6⟩
  have hz1 := hB1.size
  have hz5 := hB5.size
  have F5 := Frm.of_below (ok := fun _ => True) hB5 (fun q hq _ => hq)
  have F6 := Frm.of_below (ok := fun _ => True) hB6 (fun q hq _ => hq)
  have F16 := F5.trans F6
  have hba : Bytes (fun _ => True) w6 (.slice oa 0 ca) (([] : List UInt8)) := (Bytes.of_owns (ok := fun _ => True) hown5 HTL.out.symm (fun _ _ _ => trivial)).kept F6 (fun _ _ _ => trivial)
  have hbb : Bytes (fun _ => True) w6 (.slice ob 0 cb) (([] : List UInt8)) := Bytes.of_owns (ok := fun _ => True) hown6 HDL.out.symm (fun _ _ _ => trivial)
  have hx6 := frm_block F16 HX1.out trivial
  obtain ⟨x0, x1, x2, _⟩ := row3 hx6
  have hb16 := (hB1.trans (hB5.mono hz1)).trans (hB6.mono (Nat.le_trans hz1 hz5))
  have HX6 := Lib.hid hx6
  have HBA := Lib.hid hba
  have HBB := Lib.hid hbb
  have HR6 := Lib.hid (HR1.out.kept F16 trivial trivial)
  have HT6 := Lib.hid (HT1.out.kept F16 (fun _ _ _ => trivial))
  have HD6 := Lib.hid (HD1.out.kept F16 (fun _ _ _ => trivial))
  clear hown5 hown6 hx6 hba hbb F5 F6 F16 hB5 hB6
  go_wp2_with fail
  refine (HFi.out w6).mono ?_
  rintro e w7 ⟨rfl, hB7⟩
  have hwr : IntKind.i64.wrap ((N : Int) - 0) = (N : Int) - 0 := IntWalk.i64_in _ (by omega)
  have hwr3 : IntKind.i64.wrap (N : Int) = (N : Int) := IntWalk.i64_in _ (by omega)
  have F7 := Frm.of_below (ok := fun _ => True) hB7 (fun q hq _ => hq)
  have hSZ : ∀ w', Frm (fun _ => True) w7 w' → (w'.cell? ⟨w.heap.size, 0, none⟩ = some (.int .i64 N) ∧ w'.cell? ⟨w.heap.size, 1, none⟩ = some (.int .i64 h) ∧ w'.cell? ⟨w.heap.size, 2, none⟩ = some (.slice none 0 0)) := fun w' hf => by
    have e := row3 (frm_block (F7.trans hf) HX6.out trivial)
    exact ⟨e.1, e.2.1, e.2.2.1⟩
  have HSZ := Lib.hid hSZ
  have HR7 := Lib.hid (HR6.out.kept F7 trivial trivial)
  have HF7 := Lib.hid F7
  obtain ⟨z0, z1, z2⟩ := hSZ _ (Frm.refl _ _)
  clear hSZ x0 x1 x2 F7
  have hb17 := hb16.trans (hB7.mono hb16.size)
  go_wp2_with fail
  go_region_held3 (fun w' => w'.cell? ⟨w.heap.size, 0, none⟩ = some (.int .i64 N) ∧ w'.cell? ⟨w.heap.size, 1, none⟩ = some (.int .i64 h) ∧ w'.cell? ⟨w.heap.size, 2, none⟩ = some (.slice none 0 0))
    (first | exact HSZ.out _ FC | exact HSZ.out _ FB | exact HSZ.out _ FA | exact HSZ.out _ (Frm.refl _ _) | exact HSZ.out _ (Frm.refl _ _).drew)
    (first
      | (go_at_call 11; (with_reducible refine (len_any b g N h ([] : List UInt8) _ ?_).mono ?_); exact HR7.out.kept (Frm.refl (fun _ => True) _).drew trivial trivial; rintro e w8 ⟨rfl, rfl⟩)
      | (go_at_call 12; (with_reducible refine (free_frm b g N h ([] : List UInt8) _ ?_).mono ?_); exact HR7.out.kept (Frm.refl (fun _ => True) _).drew trivial trivial; rintro e w9 ⟨rfl, hf9⟩; have FA : Frm (fun _ => True) w7 w9 := hf9.undrew)
      | (go_at_call 18; (with_reducible refine (head_any b g N h ([] : List UInt8) _ ?_).mono ?_); exact HR7.out.kept FA trivial trivial; rintro e w10 ⟨rfl, rfl⟩)
      | (go_at_call 14; (with_reducible refine (same_any (ok := fun _ => True) (ok' := ok) (.slice oa 0 ca) (.slice none 0 0) (([] : List UInt8)) _ ?_ ?_ (by rw [HTL.out]; omega)).mono ?_); exact HBA.out.kept (HF7.out.trans FA) (fun _ _ _ => trivial); exact HT6.out.kept (HF7.out.trans FA) (fun _ _ _ => trivial); rintro e w11 ⟨rfl, hB11⟩; have FB : Frm (fun _ => True) w7 w11 := FA.trans (Frm.of_below hB11 (fun q hq _ => hq)))
      | (go_at_call 14; (with_reducible refine (same_any (ok := fun _ => True) (ok' := ok) (.slice ob 0 cb) (.slice none 0 0) (([] : List UInt8)) _ ?_ ?_ (by rw [HDL.out]; omega)).mono ?_); exact HBB.out.kept (HF7.out.trans FB) (fun _ _ _ => trivial); exact HD6.out.kept (HF7.out.trans FB) (fun _ _ _ => trivial); rintro e w12 ⟨rfl, hB12⟩; have FC : Frm (fun _ => True) w7 w12 := FB.trans (Frm.of_below hB12 (fun q hq _ => hq))))
  have hbF := below_frm hb17 hb17.size FC (fun _ _ => trivial)
  go_wp2
  go_ret
  exact ⟨rfl, hbF⟩

theorem told_any {ok : Nat → Prop} (b g N h : Nat) (o : Option Addr) (c : Nat) (l : List UInt8) (w : World) (hr : Rng w b g N h l) (hb : Bytes ok w (.slice o l.length c) l) :
    Calls Try.prog 21 #[.pointer (some ⟨b, 0, none⟩), .agg #[.int .i64 N, .int .i64 h, .slice o l.length c]] w fun e w' => e = .returned (.bool true) ∧ Below w.heap.size w w' := by
  have hfl := fst_le N h l.length
  obtain ⟨_, _, ef, hc1, hc2, _⟩ := hb.form
  cases ef
  rcases o with _ | a
  · obtain ⟨rfl, rfl⟩ : l = [] ∧ c = 0 := by
      rcases hb with ⟨e, h⟩ | ⟨_, _, e, _⟩
      · injection e with _ _ e3; exact ⟨h, e3⟩
      · injection e with e1; cases e1
    exact told_nil (ok := ok) b g N h w hr (.inl ⟨rfl, rfl⟩) (.inl ⟨rfl, rfl⟩)
  · have hT := Bytes.take (k := fst N h l.length) hb rfl hfl hc1 hc2
    by_cases hck : c = fst N h l.length
    · have hD := Bytes.dropB (K := fst N h l.length) hb hfl a (fun hlt => by omega)
      rw [← hck] at hT hD
      rw [Nat.sub_self] at hD
      exact told_near b g N h a c l w hr hT hD hck
    · have hD := Bytes.dropB (K := fst N h l.length) hb hfl _ (fun _ => rfl)
      unfold maxLen at hc2
      exact told_far b g N h a c _ l w hr hT hD rfl (by omega) (by omega)
end Go.Proofs.Ytmgkomobamjneaa
