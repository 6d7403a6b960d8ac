/-
  The contract of walked.
-/
import Derived.Test.YtmgkomobamjneaaStops
namespace Go.Proofs.Ytmgkomobamjneaa
open Go.RowKit Go.Shelf
attribute [local go_sem] Oper.semAt_some

theorem tells_get (N h : Nat) (l : List UInt8) (k : Nat) (hk : k < l.length) : (tells N h l).take k ++ [(ix N (h + k), l.getD k 0)] = (tells N h l).take (k + 1) := (tells_take N h l k hk).symm
theorem pre_no {N h : Nat} {l : List UInt8} {pre : List (Nat × UInt8)} {x : Nat × UInt8} (hm : pre = (tells N h l).take pre.length) (hlt : pre.length < l.length) (hq : ¬ (x.1 = ix N (h + pre.length) ∧ x.2 = l.getD pre.length 0)) : ¬ ((pre ++ [x]) <+: tells N h l) := by
  intro hp
  have h2 := List.prefix_iff_eq_take.1 hp
  rw [List.length_append, List.length_singleton, tells_take N h l _ hlt] at h2
  have e : pre ++ [x] = pre ++ [(ix N (h + pre.length), l.getD pre.length 0)] := by rw [h2]; congr 1; exact hm.symm
  have := List.append_inj_right e rfl
  simp only [List.cons.injEq, and_true] at this
  exact hq (by rw [this]; exact ⟨rfl, rfl⟩)
theorem pre_ok {N h : Nat} {l : List UInt8} {pre : List (Nat × UInt8)} {x : Nat × UInt8} (hm : pre = (tells N h l).take pre.length) (hlt : pre.length < l.length) (h1 : x.1 = ix N (h + pre.length)) (h2 : x.2 = l.getD pre.length 0) : pre ++ [x] = (tells N h l).take (pre ++ [x]).length := by
  have e : x = (ix N (h + pre.length), l.getD pre.length 0) := Prod.ext h1 h2
  rw [List.length_append, List.length_singleton, tells_take N h l _ hlt, ← hm, e]

set_option maxRecDepth 100000 in
set_option maxHeartbeats 8000000 in
theorem walked_any {ok : Nat → Prop} (b g N h : Nat) (o : Option Addr) (c : Nat) (l : List UInt8) (w : World) (hr : Rng w b g N h l) (hby : Bytes ok w (.slice o l.length c) l) :
    Calls Try.prog 24 #[.pointer (some ⟨b, 0, none⟩), .agg #[.int .i64 N, .int .i64 h, .slice o l.length c]] w fun e w' => e = .returned (.bool true) ∧ Below w.heap.size w w' := by
  obtain ⟨hh, hl, hN, hbs, hgs⟩ := hr.bd
  refine (callsIn_wide (n := 4)).1 ?_
  refine callsIn_of_wp_marks Try.func24 rfl trivial ?_ rfl
  simp only [Try.ntmps24, List.size_toArray, List.length_cons, List.length_nil, Nat.reduceAdd, Nat.reduceSub, Array.replicate_succ, Array.replicate_zero, List.push_toArray, List.append_toArray, List.nil_append, List.cons_append]
  have hB0 : Below w.heap.size w (((w.alloc (.cells #[.int .i64 N, .int .i64 h, .slice o l.length c] 47)).alloc (.cells #[.bool false] 4)).alloc (.cells #[.int .i64 0] 3)) := (((Below.refl _ w).alloc (Nat.le_refl _) _).alloc (by simp) _).alloc (by simp; omega) _
  have hx0 : (((w.alloc (.cells #[.int .i64 N, .int .i64 h, .slice o l.length c] 47)).alloc (.cells #[.bool false] 4)).alloc (.cells #[.int .i64 0] 3)).heap[w.heap.size]? = some (.cells #[.int .i64 N, .int .i64 h, .slice o l.length c] 47 (0, 0)) := by
    rw [Below.heap_alloc _ _ _ (by simp; omega), Below.heap_alloc _ _ _ (by simp)]
    exact World.alloc_heap_new w _
  have r0 : Boxed (((w.alloc (.cells #[.int .i64 N, .int .i64 h, .slice o l.length c] 47)).alloc (.cells #[.bool false] 4)).alloc (.cells #[.int .i64 0] 3)) (w.heap.size + 1) 4 (.bool false) := by
    have := (Boxed.new (w.alloc (.cells #[.int .i64 N, .int .i64 h, .slice o l.length c] 47)) 4 (.bool false)).alloc (.cells #[.int .i64 0] 3)
    rwa [World.size_alloc] at this
  have n0 : Boxed (((w.alloc (.cells #[.int .i64 N, .int .i64 h, .slice o l.length c] 47)).alloc (.cells #[.bool false] 4)).alloc (.cells #[.int .i64 0] 3)) (w.heap.size + 1 + 1) 3 (.int .i64 0) := by
    have := Boxed.new ((w.alloc (.cells #[.int .i64 N, .int .i64 h, .slice o l.length c] 47)).alloc (.cells #[.bool false] 4)) 3 (.int .i64 0)
    rwa [World.size_alloc, World.size_alloc] at this
  have F0 : Frm (fun _ => True) w (((w.alloc (.cells #[.int .i64 N, .int .i64 h, .slice o l.length c] 47)).alloc (.cells #[.bool false] 4)).alloc (.cells #[.int .i64 0] 3)) := (((Frm.refl _ _).alloc _).alloc _).alloc _
  have hr0 := hr.kept F0 trivial trivial
  have hby0 := (hby.mono (ok' := fun q => q < w.heap.size) (fun q hq _ => hq)).kept F0 (fun _ _ _ => trivial)
  have hnn := fun p => seq_not_nil p
  clear hr hby F0
  gi_wp2_with fail
  generalize (((w.alloc (.cells #[.int .i64 N, .int .i64 h, .slice o l.length c] 47)).alloc (.cells #[.bool false] 4)).alloc (.cells #[.int .i64 0] 3)) = w8 at *
  refine ⟨trivial, ?_⟩
  gi_at_call 17
  refine (callsIn_wide.2 (all_any _ w8)).mono ?_
  rintro e w9 ⟨rfl, rfl⟩
  have F9 : Frm (fun _ => True) w8 (w8.alloc (.cells #[.pointer (some ⟨b, 0, none⟩)] 24)) := (Frm.refl _ _).alloc _
  have q9 : (w8.alloc (.cells #[.pointer (some ⟨b, 0, none⟩)] 24)).heap[w8.heap.size]? = some (.cells #[.pointer (some ⟨b, 0, none⟩)] 24 (0, 0)) := World.alloc_heap_new w8 _
  have x9 := frm_block F9 hx0 trivial
  have r9 : Boxed (w8.alloc (.cells #[.pointer (some ⟨b, 0, none⟩)] 24)) (w.heap.size + 1) 4 (.bool false) := frm_block F9 r0 trivial
  have n9 : Boxed (w8.alloc (.cells #[.pointer (some ⟨b, 0, none⟩)] 24)) (w.heap.size + 1 + 1) 3 (.int .i64 0) := frm_block F9 n0 trivial
  have hr9 := hr0.kept F9 trivial trivial
  have hby9 := hby0.kept F9 (fun _ _ _ => trivial)
  have hB9 := hB0.alloc hB0.size (.cells #[.pointer (some ⟨b, 0, none⟩)] 24)
  have hz9 : w8.heap.size < (w8.alloc (.cells #[.pointer (some ⟨b, 0, none⟩)] 24)).heap.size := by simp
  have hz8 : w.heap.size + 1 + 1 < w8.heap.size := n0.lt
  generalize (w8.alloc (.cells #[.pointer (some ⟨b, 0, none⟩)] 24)) = w9 at *
  generalize w8.heap.size = Br at *
  have HR9 := Lib.hid hr9
  have HBY9 := Lib.hid hby9
  have HX9 := Lib.hid x9
  have HN9 := Lib.hid n9
  have HRS9 := Lib.hid r9
  have HQ9 := Lib.hid q9
  clear hx0 r0 n0 hr0 hby0 F9 q9 x9 r9 n9 hr9 hby9
  gi_wp2_with fail
  refine wpIn_rangeFunc_ownG rfl (by omega) (gf := 26) (lb := #[.pointer (some ⟨Br, 0, none⟩)]) rfl trivial (enters_of Try.func26 (by kernel_rfl) rfl)
    (all_stops _ (by omega) b g Br N h l w9 HR9.out HQ9.out) frmK_t (frmK_b (by omega) (by omega) (by omega)) (Below.refl _ _) (fun _ => rfl)
    (fun (pre : List (Nat × UInt8)) W => pre = (tells N h l).take pre.length ∧ Tell w9 w9.heap.size (w.heap.size + 1 + 1) (w.heap.size + 1) W (pre.length : Nat))
    (fun c (pre : List (Nat × UInt8)) W => c = .ret ∧ ¬ (pre <+: tells N h l))
    (fun s A B' row hs hg' hr' => ⟨hs.1, hs.2.grown (by omega) (by omega) hg' hr'⟩)
    (fun c s A B' row hs hg' hr' => hs)
    ⟨rfl, Frm.refl _ _, HN9.out, HRS9.out⟩
    (fun x => { tmps := #[.pointer (some ⟨b, 0, none⟩), .agg #[.int .i64 N, .int .i64 h, .slice o l.length c], undef, .pointer (some ⟨w.heap.size, 0, none⟩), .pointer (some ⟨w.heap.size + 1, 0, none⟩), .pointer (some ⟨w.heap.size + 1 + 1, 0, none⟩),
        .func (.func 26) #[] #[.pointer (some ⟨Br, 0, none⟩)], .int .i64 (x.1 : Nat), .int .u8 (x.2.toNat : Int), .pointer (some ⟨b, 0, none⟩), .func (.func 26) #[] #[.pointer (some ⟨Br, 0, none⟩)], .func (.func 26) #[] #[.pointer (some ⟨Br, 0, none⟩)], .bool true,
        .func (.func 26) #[] #[.pointer (some ⟨Br, 0, none⟩)], .int .i64 (x.1 : Nat), .int .u8 (x.2.toNat : Int), undef, undef, undef, undef, undef, undef, undef, undef, undef, undef, undef, undef, undef, undef, undef, undef,
        undef, undef, undef, undef, undef, undef, undef, undef, undef, undef, undef, undef, undef, undef, undef, undef], defers := [] }) ?assign ?body ?done ?stop
  case assign =>
    intro y x W K' hK'
    unfold encT
    gi_wp2
    exact hK'
  case body =>
    rintro y pre x W ⟨hmap, hT⟩ hlen'
    have hF := hT.1
    have hxb := frm_block hF HX9.out ⟨by omega, by omega, by omega⟩
    have hbyW := HBY9.out.kept hF (fun q _ hq => ⟨by omega, by omega, by omega⟩)
    obtain ⟨_, _, eW, _, _, h4W⟩ := hbyW.form
    cases eW
    obtain ⟨b', off, rfl, _, _, hcW⟩ := h4W (by intro e; rw [e] at hlen'; simp at hlen')
    have hcell := hcW pre.length hlen'
    unfold byteVal at hcell
    obtain ⟨k0, k1, k2, _⟩ := row3 hxb
    have k3 := hT.2.1.cell
    have k4 := hT.2.1.frozen
    have k5 := hT.2.2.cell
    have k6 := hT.2.2.frozen
    have hNl := hT.2.1.lt
    have HT := Lib.hid hT
    have HMAP := Lib.hid hmap
    have hlx : (pre ++ [x]).length = pre.length + 1 := by simp
    have HX := Lib.hid hlx
    have hm : ((h : Int) + (pre.length : Int)) % (N : Int) = ((ix N (h + pre.length) : Nat) : Int) := by rw [← ix_mod (show h + pre.length < 2 * N by omega)]; rfl
    clear hmap hT hF hxb hbyW h4W hcW hlx
    by_cases hq1 : x.1 = ix N (h + pre.length)
    · by_cases hq : x.2 = l.getD pre.length 0
      · have HPY := Lib.hid (pre_ok HMAP.out hlen' hq1 hq)
        rw [← hq] at hcell
        rw [← hq1] at hm
        have hN2 := HT.out.next (by omega) ((pre.length : Int) + 1)
        have HN2 := Lib.hid hN2
        have hfr : Frm (okR b g Br) W (W.setCell ⟨w.heap.size + 1 + 1, 0, none⟩ (.int .i64 ((pre.length : Int) + 1))) := (Frm.refl _ _).setCell _ _ _ (fun _ hk => by rcases hk with h | h | h <;> omega)
        have HFR := Lib.hid hfr
        clear hN2 hfr hq hq1
        gi_wp2
        exact ⟨(KeepsOthers.setCell _ _ _).from _, HFR.out, HPY.out, by rw [HX.out]; exact HN2.out⟩
      · have HPN := Lib.hid (pre_no HMAP.out hlen' (fun hh => hq hh.2))
        rw [← hq1] at hm
        generalize l.getD pre.length 0 = yy at *
        have hne : ¬ x.2.toNat = yy.toNat := fun e => hq (UInt8.toNat_inj.1 e)
        have hne1 : (x.2.toNat != yy.toNat) = true := by rw [bne_iff_ne]; exact hne
        have hne2 : ((x.2.toNat : Int) != (yy.toNat : Int)) = true := by rw [bne_iff_ne]; omega
        clear hne hq hq1
        gi_wp2
        exact ⟨(KeepsOthers.setCell _ _ _).from _, rfl, HPN.out⟩
    · have HPN := Lib.hid (pre_no HMAP.out hlen' (fun hh => hq1 hh.1))
      generalize ix N (h + pre.length) = qq at *
      have hne1 : (x.1 != qq) = true := by rw [bne_iff_ne]; exact hq1
      have hne2 : ((x.1 : Int) != (qq : Int)) = true := by rw [bne_iff_ne]; omega
      clear hq1
      gi_wp2
      exact ⟨(KeepsOthers.setCell _ _ _).from _, rfl, HPN.out⟩
  case done =>
    rintro D xs W hD rfl ⟨_, hT⟩ hK'
    rw [tells_len] at hT
    have hF := hT.1
    have hxb := frm_block hF HX9.out ⟨by omega, by omega, by omega⟩
    obtain ⟨k0, k1, k2, _⟩ := row3 hxb
    have k3 := hT.2.1.cell
    have k5 := hT.2.2.cell
    have k6 := hT.2.2.frozen
    have hDlt := lt_of_block hK'
    have hBW := below_frm hB9 hB9.size hF (fun q hq => ⟨by omega, by omega, by omega⟩)
    have hK2 := (KeepsOthers.setCell W ⟨w.heap.size + 1, 0, none⟩ (.bool true)).same D _ hK' rfl
    have hc5 : ((W.setCell ⟨w.heap.size + 1, 0, none⟩ (.bool true)).putObj D (.deferred none)).cell? ⟨w.heap.size + 1, 0, none⟩ = some (.bool true) := cell_kept (World.cell?_setCell_same W ⟨w.heap.size + 1, 0, none⟩ (.bool true) k5) (grownBy_putObj' _ D (.deferred none)) (fun r e => by cases e; exact ⟨_, hK2, rfl⟩)
    have hBZ : Below w.heap.size w ((W.setCell ⟨w.heap.size + 1, 0, none⟩ (.bool true)).putObj D (.deferred none)) := (hBW.setCell (p := ⟨w.heap.size + 1, 0, none⟩) (by show w.heap.size ≤ w.heap.size + 1; omega) (.bool true)).trans (belowK_b (w := w9) (by omega) _ D _ (.deferred none) hD hK2 rfl rfl)
    have HK2 := Lib.hid hK2
    have HC5 := Lib.hid hc5
    have HBZ := Lib.hid hBZ
    clear hT hF hxb hBW hK' hK2 hc5 hBZ
    gi_wp2
    refine ⟨by simp, .inl ⟨_, _, rfl, run_takeDeferred HK2.out, ?_⟩⟩
    refine ⟨.bool true, ?_, rfl, HBZ.out⟩
    have hc5 := HC5.out
    simp [results, Try.f24, go_sem, hc5]
  case stop =>
    rintro D c pre W hD hpre ⟨rfl, hn⟩ hK'
    exact (hn hpre).elim
end Go.Proofs.Ytmgkomobamjneaa
