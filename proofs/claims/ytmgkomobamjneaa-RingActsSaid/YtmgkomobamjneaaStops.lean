/-
  The walk of RingStops.
-/
import Derived.Test.YtmgkomobamjneaaM
import Derived.Deep.RegionHeld3
import Derived.IntWalk
namespace Go.Proofs.Ytmgkomobamjneaa
open Go.RowKit Go.Shelf
attribute [local go_sem] Oper.semAt_some

theorem seq_not_nil (p : Option Addr) (w : World) : (binOp .neq 35 (.func (.func 26) #[] #[.pointer p]) .nilFunc).run Try.prog w = .ok (.bool true) w := by kernel_rfl

/-- What holds between two rounds: all stands as it stood but the count's box and the result's. -/
def Tell (W0 : World) (Bq Nn Rs : Nat) (W : World) (n : Int) : Prop :=
  Frm (fun q => q < Bq ∧ q ≠ Nn ∧ q ≠ Rs) W0 W ∧ Boxed W Nn 3 (.int .i64 n) ∧ Boxed W Rs 4 (.bool false)
theorem Tell.grown {W0 A B : World} {Bq Nn Rs : Nat} {n : Int} {row : Option Nat} (h : Tell W0 Bq Nn Rs A n) (h1 : Nn < Bq) (h2 : Rs < Bq) (hg : A.grownBy B row) (hr : ∀ r, row = some r → Bq ≤ r ∧ ∃ o, A.heap[r]? = some o ∧ o.isCells = false) : Tell W0 Bq Nn Rs B n := by
  obtain ⟨a, b, c⟩ := h
  refine ⟨a.grown hg (fun k e _ hk => by have := (hr k e).1; omega), b.kept hg (fun e => ?_), c.kept hg (fun e => ?_)⟩
  · have := (hr Nn e.symm).1; omega
  · have := (hr Rs e.symm).1; omega
theorem Tell.next {W0 W : World} {Bq Nn Rs : Nat} {n : Int} (h : Tell W0 Bq Nn Rs W n) (hne : Nn ≠ Rs) (m : Int) : Tell W0 Bq Nn Rs (W.setCell ⟨Nn, 0, none⟩ (.int .i64 m)) m :=
  ⟨h.1.setCell _ _ _ (fun _ hk => hk.2.1 rfl), h.2.1.set _, h.2.2.other (fun e => hne e.symm) _⟩

theorem pre_not {l : List UInt8} {pre : List (Nat × UInt8)} {x : Nat × UInt8} (hm : pre.map Prod.snd = l.take pre.length) (hlt : pre.length < l.length) (hq : x.2 ≠ l.getD pre.length 0) : ¬ ((pre ++ [x]).map Prod.snd <+: l) := by
  intro hp
  have h2 := List.prefix_iff_eq_take.1 hp
  have htk : l.take (pre.length + 1) = l.take pre.length ++ [l.getD pre.length 0] := by
    rw [List.take_succ_eq_append_getElem hlt]
    simp [List.getD, List.getElem?_eq_getElem hlt]
  rw [List.length_map, List.length_append, List.length_singleton, htk, List.map_append, hm] at h2
  have := List.append_inj_right h2 rfl
  simp only [List.map_cons, List.map_nil, List.cons.injEq, and_true] at this
  exact hq this
theorem pre_yes {l : List UInt8} {pre : List (Nat × UInt8)} {x : Nat × UInt8} (hm : pre.map Prod.snd = l.take pre.length) (hlt : pre.length < l.length) (hq : x.2 = l.getD pre.length 0) : (pre ++ [x]).map Prod.snd = l.take (pre ++ [x]).length := by
  have htk : l.take (pre.length + 1) = l.take pre.length ++ [l.getD pre.length 0] := by
    rw [List.take_succ_eq_append_getElem hlt]
    simp [List.getD, List.getElem?_eq_getElem hlt]
  rw [List.length_append, List.length_singleton, htk, List.map_append, hm, ← hq]
  rfl

set_option maxRecDepth 100000 in
set_option maxHeartbeats 8000000 in
theorem ringStops_any (v : Value) (B : List UInt8) (drop stop : Int) (w : World) (hv : Bytes (fun _ => True) w v B) (hBl : B.length ≤ 140737488351232) (hd0 : 0 ≤ drop) (hd1 : drop ≤ 255) (hs0 : 0 ≤ stop) (hs1 : stop ≤ 255) :
    Calls Try.prog 4 #[v, .int .u8 drop, .int .u8 stop] w fun e w' => e = .returned (.bool true) ∧ Below w.heap.size w w' := by
  obtain ⟨dr, rfl⟩ := Int.eq_ofNat_of_zero_le hd0
  obtain ⟨st, rfl⟩ := Int.eq_ofNat_of_zero_le hs0
  have hst : st ≤ 255 := by omega
  obtain ⟨o, cap, rfl, hcl, hcm, _⟩ := hv.form
  unfold maxLen at hcm
  have hvk : ∀ w', Below w.heap.size w w' → Bytes (fun q => q < w.heap.size) w' (.slice o B.length cap) B := fun w' hb => (hv.mono (ok' := fun q => q < w.heap.size) (fun q hq _ => hq)).kept (Frm.of_below (ok := fun q => q < w.heap.size) hb (fun q _ hq => hq)) (fun _ _ hq => hq)
  have HV := Lib.hid hvk
  clear hv hvk
  refine (callsIn_wide (n := 4)).1 ?_
  refine callsIn_of_wp_marks Try.func4 rfl trivial ?_ rfl
  simp only [Try.ntmps4, List.size_toArray, List.length_cons, List.length_nil, Nat.reduceAdd, Nat.reduceSub, Array.replicate_succ, Array.replicate_zero, List.push_toArray, List.append_toArray, List.nil_append, List.cons_append]
  have hB0 : Below w.heap.size w ((w.alloc (.cells #[.int .u8 st] 5)).alloc (.cells #[.bool false] 4)) := ((Below.refl _ w).alloc (Nat.le_refl _) _).alloc (by simp) _
  have b0 : Boxed ((w.alloc (.cells #[.int .u8 st] 5)).alloc (.cells #[.bool false] 4)) w.heap.size 5 (.int .u8 st) := (Boxed.new w 5 (.int .u8 st)).alloc _
  have r0 : Boxed ((w.alloc (.cells #[.int .u8 st] 5)).alloc (.cells #[.bool false] 4)) (w.heap.size + 1) 4 (.bool false) := by
    have := Boxed.new (w.alloc (.cells #[.int .u8 st] 5)) 4 (.bool false)
    rwa [World.size_alloc] at this
  gi_wp2_with fail
  generalize (w.alloc (.cells #[.int .u8 st] 5)).alloc (.cells #[.bool false] 4) = W0 at *
  refine ⟨trivial, ?_⟩
  gi_at_call 8
  refine (callsIn_wide.2 (wakes_any W0)).mono ?_
  rintro e w1 ⟨rfl, hb1⟩
  have hW0s := r0.lt
  have F1 := Frm.of_below (ok := fun _ => True) hb1 (fun q hq _ => hq)
  have hB1 := hB0.trans (hb1.mono hB0.size)
  have b1 : Boxed w1 w.heap.size 5 (.int .u8 st) := frm_block F1 b0 trivial
  have r1 : Boxed w1 (w.heap.size + 1) 4 (.bool false) := frm_block F1 r0 trivial
  have hs1' : w.heap.size + 1 < w1.heap.size := r1.lt
  have HB1 := Lib.hid b1
  have HR1 := Lib.hid r1
  clear b0 r0 b1 F1
  by_cases hlen : B.length ≤ 200
  · gi_wp2_with fail
    refine ⟨trivial, ?_⟩
    gi_at_call 9
    refine (callsIn_wide.2 (new_ok 50 w1 (by decide) (by decide))).mono ?_
    rintro e w2 ⟨b, g, rfl, hb, hg, hr2, hB2⟩
    have hB12 := hB1.trans (hB2.mono hB1.size)
    have hz2 := hB2.size
    have hW2 := write_any b g 50 0 [] (.slice o B.length cap) B w2 hr2 (HV.out w2 hB12) (fun q hq => by omega) (by omega)
    rw [List.nil_append] at hW2
    have hbd2 := hr2.bd
    generalize B.take (room 50 ([] : List UInt8).length B.length) = H1 at *
    generalize room 50 ([] : List UInt8).length B.length = K1 at *
    clear hr2 r1
    gi_wp2_with fail
    refine ⟨trivial, ?_⟩
    gi_at_call 10
    refine (callsIn_wide.2 hW2).mono ?_
    rintro e w3 ⟨rfl, hr3, hf3⟩
    have hB3 := below_frm hB12 hB12.size hf3 (fun q hq => ⟨by omega, by omega⟩)
    have hz3 := hf3.size
    have hD3 := drop_any b g 50 0 H1 (dr : Int) w3 hr3 (by omega)
    generalize ix 50 (0 + cut (dr : Int) H1.length) = hd at *
    generalize H1.drop (cut (dr : Int) H1.length) = H2 at *
    generalize cut (dr : Int) H1.length = K2 at *
    clear hr3 hW2
    gi_wp2_with fail
    refine ⟨trivial, ?_⟩
    gi_at_call 15
    refine (callsIn_wide.2 hD3).mono ?_
    rintro e w4 ⟨rfl, hr4, hf4⟩
    have hB4 := below_frm hB3 hB3.size hf4 (fun q hq => by omega)
    have hz4 := hf4.size
    have hW4 := write_any b g 50 hd H2 (.slice o B.length cap) B w4 hr4 (HV.out w4 hB4) (fun q hq => by omega) (by omega)
    generalize H2 ++ B.take (room 50 H2.length B.length) = H at *
    generalize room 50 H2.length B.length = K4 at *
    clear hr4 hD3
    gi_wp2_with fail
    refine ⟨trivial, ?_⟩
    gi_at_call 10
    refine (callsIn_wide.2 hW4).mono ?_
    rintro e w5 ⟨rfl, hr5, hf5⟩
    have hB5 := below_frm hB4 hB4.size hf5 (fun q hq => ⟨by omega, by omega⟩)
    have hz5 := hf5.size
    have hbd5 := hr5.bd
    have hcut : cut 50 H.length = H.length := by
      unfold cut
      rw [if_neg (by decide)]
      have : (50 : Int).toNat = 50 := rfl
      omega
    have hP5 := peek_any b g 50 hd H 50 w5 hr5 (by decide)
    rw [hcut, List.take_length] at hP5
    have HR5 := Lib.hid hr5
    have F25 : Frm (fun q => q < w1.heap.size) w1 w5 := ((Frm.of_below (ok := fun q => q < w1.heap.size) hB2 (fun q _ hq => hq)).trans (hf3.mono (fun q _ hq => ⟨by omega, by omega⟩))).trans ((hf4.mono (fun q _ hq => by omega)).trans (hf5.mono (fun q _ hq => ⟨by omega, by omega⟩)))
    have HF25 := Lib.hid F25
    clear hr5 hW4 hcut F25 hf3 hf4 hf5
    gi_wp2_with fail
    refine ⟨trivial, ?_⟩
    gi_at_call 16
    refine (callsIn_wide.2 hP5).mono ?_
    rintro e w6 ⟨op, cp, rfl, hown6, hB56⟩
    have hB6 := hB5.trans (hB56.mono hB5.size)
    have hz6 := hB56.size
    have F6 := Frm.of_below (ok := fun q => q < w5.heap.size) hB56 (fun q _ hq => hq)
    have hby6 : Bytes (fun q => w5.heap.size ≤ q ∧ q < w6.heap.size) w6 (.slice op H.length cp) H := Bytes.of_owns hown6 rfl (fun q h1 h2 => ⟨h1, h2⟩)
    have b6 : Boxed w6 w.heap.size 5 (.int .u8 st) := frm_block F6 (frm_block HF25.out HB1.out (by omega)) (by omega)
    have r6 : Boxed w6 (w.heap.size + 1) 4 (.bool false) := frm_block F6 (frm_block HF25.out HR1.out hs1') (by omega)
    have hr6 := HR5.out.kept F6 hbd5.2.2.2.1 hbd5.2.2.2.2
    -- the boxes of want and n
    have m8 : Boxed ((w6.alloc (.cells #[.slice op H.length cp] 22)).alloc (.cells #[.int .i64 0] 3)) w6.heap.size 22 (.slice op H.length cp) := (Boxed.new w6 22 _).alloc _
    have n8 : Boxed ((w6.alloc (.cells #[.slice op H.length cp] 22)).alloc (.cells #[.int .i64 0] 3)) (w6.heap.size + 1) 3 (.int .i64 0) := by
      have := Boxed.new (w6.alloc (.cells #[.slice op H.length cp] 22)) 3 (.int .i64 0)
      rwa [World.size_alloc] at this
    have F8 : Frm (fun _ => True) w6 ((w6.alloc (.cells #[.slice op H.length cp] 22)).alloc (.cells #[.int .i64 0] 3)) := ((Frm.refl _ _).alloc _).alloc _
    have hB8 := below_frm hB6 hB6.size F8 (fun _ _ => trivial)
    have hnn := fun p => seq_not_nil p
    clear hown6 hP5
    gi_wp2_with fail
    generalize (w6.alloc (.cells #[.slice op H.length cp] 22)).alloc (.cells #[.int .i64 0] 3) = w8 at *
    have b8 : Boxed w8 w.heap.size 5 (.int .u8 st) := frm_block F8 b6 trivial
    have r8 : Boxed w8 (w.heap.size + 1) 4 (.bool false) := frm_block F8 r6 trivial
    have hr8 := hr6.kept F8 trivial trivial
    have hby8 := hby6.kept F8 (fun _ _ _ => trivial)
    refine ⟨trivial, ?_⟩
    gi_at_call 17
    refine (callsIn_wide.2 (all_any _ w8)).mono ?_
    rintro e w9 ⟨rfl, rfl⟩
    have F9 : Frm (fun _ => True) w8 (w8.alloc (.cells #[.pointer (some ⟨b, 0, none⟩)] 24)) := (Frm.refl _ _).alloc _
    have q9 : (w8.alloc (.cells #[.pointer (some ⟨b, 0, none⟩)] 24)).heap[w8.heap.size]? = some (.cells #[.pointer (some ⟨b, 0, none⟩)] 24 (0, 0)) := World.alloc_heap_new w8 _
    have b9 : Boxed (w8.alloc (.cells #[.pointer (some ⟨b, 0, none⟩)] 24)) w.heap.size 5 (.int .u8 st) := frm_block F9 b8 trivial
    have r9 : Boxed (w8.alloc (.cells #[.pointer (some ⟨b, 0, none⟩)] 24)) (w.heap.size + 1) 4 (.bool false) := frm_block F9 r8 trivial
    have m9 : Boxed (w8.alloc (.cells #[.pointer (some ⟨b, 0, none⟩)] 24)) w6.heap.size 22 (.slice op H.length cp) := frm_block F9 m8 trivial
    have n9 : Boxed (w8.alloc (.cells #[.pointer (some ⟨b, 0, none⟩)] 24)) (w6.heap.size + 1) 3 (.int .i64 0) := frm_block F9 n8 trivial
    have hr9 := hr8.kept F9 trivial trivial
    have hby9 := hby8.kept F9 (fun _ _ _ => trivial)
    have hB9 := hB8.alloc hB8.size (.cells #[.pointer (some ⟨b, 0, none⟩)] 24)
    have hz9 : w8.heap.size < (w8.alloc (.cells #[.pointer (some ⟨b, 0, none⟩)] 24)).heap.size := by simp
    have hz8 : w6.heap.size + 1 < w8.heap.size := n8.lt
    generalize (w8.alloc (.cells #[.pointer (some ⟨b, 0, none⟩)] 24)) = w9 at *
    generalize w8.heap.size = Br at *
    have hbd9 := hr9.bd
    have HR9 := Lib.hid hr9
    have HBY9 := Lib.hid hby9
    have HM9 := Lib.hid m9
    have HB9 := Lib.hid b9
    have HN9 := Lib.hid n9
    have HRS9 := Lib.hid r9
    have HQ9 := Lib.hid q9
    clear b6 r6 hr6 hby6 m8 n8 F8 b8 r8 hr8 hby8 F9 b9 r9 m9 n9 hr9 hby9 q9
    gi_wp2_with fail
    refine wpIn_rangeFunc_ownG rfl (by omega) (gf := 26) (lb := #[.pointer (some ⟨Br, 0, none⟩)]) rfl trivial (enters_of Try.func26 (by kernel_rfl) rfl)
      (all_stops _ (by omega) b g Br 50 hd H w9 HR9.out HQ9.out) frmK_t (frmK_b (by omega) (by omega) (by omega)) (Below.refl _ _) (fun _ => rfl)
      (fun (pre : List (Nat × UInt8)) W => (pre.length ≤ st ∧ pre.map Prod.snd = H.take pre.length) ∧ Tell w9 w9.heap.size (w6.heap.size + 1) (w.heap.size + 1) W (pre.length : Nat))
      (fun c (pre : List (Nat × UInt8)) W => (c = .exit 0 ∧ pre.length = st + 1 ∧ Tell w9 w9.heap.size (w6.heap.size + 1) (w.heap.size + 1) W st) ∨ (c = .ret ∧ ¬ (pre.map Prod.snd <+: H)))
      (fun s A B' row hs hg' hr' => ⟨hs.1, hs.2.grown (by omega) (by omega) hg' hr'⟩)
      (fun c s A B' row hs hg' hr' => hs.elim (fun hh => .inl ⟨hh.1, hh.2.1, hh.2.2.grown (by omega) (by omega) hg' hr'⟩) (fun hh => .inr hh))
      ⟨⟨Nat.zero_le _, rfl⟩, Frm.refl _ _, HN9.out, HRS9.out⟩
      (fun x => { tmps := #[.slice o B.length cap, .int .u8 dr, .int .u8 st, undef, undef, .pointer (some ⟨w.heap.size, 0, none⟩), .pointer (some ⟨w.heap.size + 1, 0, none⟩), .pointer (some ⟨b, 0, none⟩),
          .int .i64 0, .pointer (some ⟨w6.heap.size, 0, none⟩), .pointer (some ⟨w6.heap.size + 1, 0, none⟩), .func (.func 26) #[] #[.pointer (some ⟨Br, 0, none⟩)], undef, .int .u8 (x.2.toNat : Int), .bool true,
          .bool false, .slice o B.length cap, .int .i64 B.length, .bool (decide (200 < (B.length : Int))), .tuple #[.pointer (some ⟨b, 0, none⟩), .int .i64 0], .tuple #[.pointer (some ⟨b, 0, none⟩), .int .i64 0],
          .pointer (some ⟨b, 0, none⟩), .int .i64 0, .int .i64 0, .bool false, .bool false, .pointer (some ⟨b, 0, none⟩), .bool false, .bool false, .pointer (some ⟨b, 0, none⟩), .slice o B.length cap,
          .int .i64 K1, .pointer (some ⟨b, 0, none⟩), .int .u8 dr, .int .i64 dr, .int .i64 K2, .pointer (some ⟨b, 0, none⟩), .slice o B.length cap, .int .i64 K4, .pointer (some ⟨b, 0, none⟩),
          .slice op H.length cp, .pointer (some ⟨b, 0, none⟩), .func (.func 26) #[] #[.pointer (some ⟨Br, 0, none⟩)], .func (.func 26) #[] #[.pointer (some ⟨Br, 0, none⟩)], .bool true,
          .func (.func 26) #[] #[.pointer (some ⟨Br, 0, none⟩)], .int .i64 (x.1 : Nat), .int .u8 (x.2.toNat : Int), undef, undef, undef, undef, undef, undef, undef, undef, undef, undef, undef, undef, undef, undef, undef, undef,
          undef, undef, undef, undef, undef, undef, undef, undef, undef, undef, undef, undef, undef, undef, undef, undef], defers := [] }) ?assign ?body ?done ?stop
    case assign =>
      intro y x W K' hK'
      unfold encT
      gi_wp2
      exact hK'
    case body =>
      rintro y pre x W ⟨⟨hle, hmap⟩, hT⟩ hlen'
      have hF := hT.1
      have hsb := (frm_block hF HB9.out ⟨by omega, by omega, by omega⟩ : W.heap[w.heap.size]? = _)
      have hwb := (frm_block hF HM9.out ⟨by omega, by omega, by omega⟩ : W.heap[w6.heap.size]? = _)
      have hbyW := HBY9.out.kept hF (fun q _ hq => ⟨by omega, by omega, by omega⟩)
      obtain ⟨_, _, eW, _, _, h4W⟩ := hbyW.form
      cases eW
      obtain ⟨b', off, rfl, _, _, hcW⟩ := h4W (by intro e; rw [e] at hlen'; simp at hlen')
      have hcell := hcW pre.length hlen'
      unfold byteVal at hcell
      have k1 := cell_of_one hsb
      have k2 := cell_of_one hwb
      have k3 := hT.2.1.cell
      have k4 := hT.2.1.frozen
      have k5 := hT.2.2.cell
      have k6 := hT.2.2.frozen
      have hNl := hT.2.1.lt
      have HT := Lib.hid hT
      have HMAP := Lib.hid hmap
      have hlx : (pre ++ [x]).length = pre.length + 1 := by simp
      have HX := Lib.hid hlx
      clear hmap hT hF hsb hwb hbyW h4W hcW hlx
      by_cases hge : st ≤ pre.length
      · have hpe : pre.length = st := by omega
        rw [hpe] at k3
        have hT' := HT.out
        rw [hpe] at hT'
        have hpx : (pre ++ [x]).length = st + 1 := by rw [HX.out, hpe]
        have HPX := Lib.hid hpx
        have HT' := Lib.hid hT'
        clear hpe hpx hT' hge hle hcell
        gi_wp2
        exact ⟨KeepsFrom.refl _ _, .inl ⟨rfl, HPX.out, HT'.out⟩⟩
      · have hlt : pre.length < st := by omega
        clear hge
        by_cases hq : x.2 = H.getD pre.length 0
        · have HPY := Lib.hid (pre_yes HMAP.out hlen' hq)
          rw [← hq] at hcell
          have hN2 := HT.out.next (by omega) ((pre.length : Int) + 1)
          have HN2 := Lib.hid hN2
          have hfr : Frm (okR b g Br) W (W.setCell ⟨w6.heap.size + 1, 0, none⟩ (.int .i64 ((pre.length : Int) + 1))) := (Frm.refl _ _).setCell _ _ _ (fun _ hk => by rcases hk with h | h | h <;> omega)
          have HFR := Lib.hid hfr
          clear hN2 hfr hq
          gi_wp2
          exact ⟨(KeepsOthers.setCell _ _ _).from _, HFR.out, ⟨by rw [HX.out]; omega, HPY.out⟩, by rw [HX.out]; exact HN2.out⟩
        · have HPN := Lib.hid (pre_not HMAP.out hlen' hq)
          generalize H.getD pre.length 0 = yy at *
          have hne : ¬ x.2.toNat = yy.toNat := fun e => hq (UInt8.toNat_inj.1 e)
          have hne1 : (x.2.toNat != yy.toNat) = true := by rw [bne_iff_ne]; exact hne
          have hne2 : ((x.2.toNat : Int) != (yy.toNat : Int)) = true := by rw [bne_iff_ne]; omega
          have HNE := Lib.hid hne
          clear hne hq
          gi_wp2
          exact ⟨(KeepsOthers.setCell _ _ _).from _, .inr ⟨rfl, HPN.out⟩⟩
    case done =>
      rintro D xs W hD rfl ⟨⟨hle, _⟩, hT⟩ hK'
      rw [tells_len] at hle hT
      have hF := hT.1
      have hsb := (frm_block hF HB9.out ⟨by omega, by omega, by omega⟩ : W.heap[w.heap.size]? = _)
      have hwb := (frm_block hF HM9.out ⟨by omega, by omega, by omega⟩ : W.heap[w6.heap.size]? = _)
      have k1 := cell_of_one hsb
      have k2 := cell_of_one hwb
      have k3 := hT.2.1.cell
      have k5 := hT.2.2.cell
      have k6 := hT.2.2.frozen
      have hrW := HR9.out.kept hF ⟨by omega, by omega, by omega⟩ ⟨by omega, by omega, by omega⟩
      have hDlt := lt_of_block hK'
      have hBW := below_frm hB9 hB9.size hF (fun q hq => ⟨by omega, by omega, by omega⟩)
      have HBW := Lib.hid hBW
      have HRW := Lib.hid hrW
      have HK := Lib.hid hK'
      clear hT hF hsb hwb hrW hBW hK'
      gi_wp2_with fail
      have hws : IntKind.i64.wrap (st : Int) = (st : Int) := IntWalk.i64_in _ (by omega)
      have hLen := fun (W' : World) (hf : Frm (fun _ => True) W W') => len_any b g 50 hd H W' (HRW.out.kept hf trivial trivial)
      have HLEN := Lib.hid hLen
      clear hLen
      have hst3 : ∀ v, (W.setCell ⟨w.heap.size + 1, 0, none⟩ v).cell? ⟨w6.heap.size + 1, 0, none⟩ = some (.int .i64 H.length) ∧ (W.setCell ⟨w.heap.size + 1, 0, none⟩ v).cell? ⟨w.heap.size, 0, none⟩ = some (.int .u8 st) ∧ (W.setCell ⟨w.heap.size + 1, 0, none⟩ v).cell? ⟨w6.heap.size, 0, none⟩ = some (.slice op H.length cp) := fun v =>
        ⟨(World.cell?_setCell_other _ _ _ _ (fun e => by have := congrArg Addr.block e; simp only at this; omega)).trans k3, (World.cell?_setCell_other _ _ _ _ (fun e => by have := congrArg Addr.block e; simp only at this; omega)).trans k1, (World.cell?_setCell_other _ _ _ _ (fun e => by have := congrArg Addr.block e; simp only at this; omega)).trans k2⟩
      have HST3 := Lib.hid hst3
      clear hst3
      by_cases hh : (H.length : Int) < (st : Int)
      · have hb1 : ((H.length : Int) == (H.length : Int)) = true := beq_self_eq_true _
        refine wpIn_wide.2 ?_
        go_region_held3 (fun w' => w'.cell? ⟨w6.heap.size + 1, 0, none⟩ = some (.int .i64 H.length) ∧ w'.cell? ⟨w.heap.size, 0, none⟩ = some (.int .u8 st) ∧ w'.cell? ⟨w6.heap.size, 0, none⟩ = some (.slice op H.length cp))
          (first | exact ⟨k3, k1, k2⟩ | exact HST3.out _)
          ((go_at_call 11; (with_reducible refine (HLEN.out _ ?_).mono ?_); exact (Frm.refl (fun _ => True) _).drew; rintro e w' ⟨rfl, rfl⟩))
        have hK2 := (KeepsOthers.setCell W ⟨w.heap.size + 1, 0, none⟩ (.bool true)).same D _ HK.out rfl
        have hK3 : ((W.setCell ⟨w.heap.size + 1, 0, none⟩ (.bool true)).drew).heap[D]? = some (.deferred (some [])) := hK2
        have hc4 : ((W.setCell ⟨w.heap.size + 1, 0, none⟩ (.bool true)).putObj D (.deferred none)).cell? ⟨w.heap.size + 1, 0, none⟩ = some (.bool true) := cell_kept (World.cell?_setCell_same W ⟨w.heap.size + 1, 0, none⟩ (.bool true) k5) (grownBy_putObj' _ D (.deferred none)) (fun r e => by cases e; exact ⟨_, hK2, rfl⟩)
        have hc5 : (((W.setCell ⟨w.heap.size + 1, 0, none⟩ (.bool true)).drew).putObj D (.deferred none)).cell? ⟨w.heap.size + 1, 0, none⟩ = some (.bool true) := hc4
        have hBZ : Below w.heap.size w (((W.setCell ⟨w.heap.size + 1, 0, none⟩ (.bool true)).drew).putObj D (.deferred none)) := ((HBW.out.setCell (p := ⟨w.heap.size + 1, 0, none⟩) (by show w.heap.size ≤ w.heap.size + 1; omega) (.bool true)).drew).trans (belowK_b (w := w9) (by omega) _ D _ (.deferred none) hD hK3 rfl rfl)
        have HK3 := Lib.hid hK3
        have HC5 := Lib.hid hc5
        have HBZ := Lib.hid hBZ
        clear hK2 hK3 hc4 hc5 hBZ
        gi_wp2
        refine ⟨by simp, .inl ⟨_, _, rfl, run_takeDeferred HK3.out, ?_⟩⟩
        refine ⟨.bool true, ?_, rfl, HBZ.out⟩
        have hc5 := HC5.out
        simp [results, Try.f4, go_sem, hc5]
      · have hb1 : ((H.length : Int) == (st : Int)) = true := beq_iff_eq.2 (by omega)
        have hb2 : (H.length == st) = true := beq_iff_eq.2 (by omega)
        refine wpIn_wide.2 ?_
        go_region_held3 (fun w' => w'.cell? ⟨w6.heap.size + 1, 0, none⟩ = some (.int .i64 H.length) ∧ w'.cell? ⟨w.heap.size, 0, none⟩ = some (.int .u8 st) ∧ w'.cell? ⟨w6.heap.size, 0, none⟩ = some (.slice op H.length cp))
          (first | exact ⟨k3, k1, k2⟩ | exact HST3.out _)
          ((go_at_call 11; (with_reducible refine (HLEN.out _ ?_).mono ?_); exact (Frm.refl (fun _ => True) _).drew; rintro e w' ⟨rfl, rfl⟩))
        have hK2 := (KeepsOthers.setCell W ⟨w.heap.size + 1, 0, none⟩ (.bool true)).same D _ HK.out rfl
        have hK3 : ((W.setCell ⟨w.heap.size + 1, 0, none⟩ (.bool true)).drew).heap[D]? = some (.deferred (some [])) := hK2
        have hc4 : ((W.setCell ⟨w.heap.size + 1, 0, none⟩ (.bool true)).putObj D (.deferred none)).cell? ⟨w.heap.size + 1, 0, none⟩ = some (.bool true) := cell_kept (World.cell?_setCell_same W ⟨w.heap.size + 1, 0, none⟩ (.bool true) k5) (grownBy_putObj' _ D (.deferred none)) (fun r e => by cases e; exact ⟨_, hK2, rfl⟩)
        have hc5 : (((W.setCell ⟨w.heap.size + 1, 0, none⟩ (.bool true)).drew).putObj D (.deferred none)).cell? ⟨w.heap.size + 1, 0, none⟩ = some (.bool true) := hc4
        have hBZ : Below w.heap.size w (((W.setCell ⟨w.heap.size + 1, 0, none⟩ (.bool true)).drew).putObj D (.deferred none)) := ((HBW.out.setCell (p := ⟨w.heap.size + 1, 0, none⟩) (by show w.heap.size ≤ w.heap.size + 1; omega) (.bool true)).drew).trans (belowK_b (w := w9) (by omega) _ D _ (.deferred none) hD hK3 rfl rfl)
        have HK3 := Lib.hid hK3
        have HC5 := Lib.hid hc5
        have HBZ := Lib.hid hBZ
        clear hK2 hK3 hc4 hc5 hBZ
        gi_wp2
        refine ⟨by simp, .inl ⟨_, _, rfl, run_takeDeferred HK3.out, ?_⟩⟩
        refine ⟨.bool true, ?_, rfl, HBZ.out⟩
        have hc5 := HC5.out
        simp [results, Try.f4, go_sem, hc5]
    case stop =>
      rintro D c pre W hD hpre hx hK'
      rcases hx with ⟨rfl, hl, hT⟩ | ⟨rfl, hn⟩
      · have hle := hpre.length_le
        rw [tells_len, hl] at hle
        have hF := hT.1
        have hsb := (frm_block hF HB9.out ⟨by omega, by omega, by omega⟩ : W.heap[w.heap.size]? = _)
        have hwb := (frm_block hF HM9.out ⟨by omega, by omega, by omega⟩ : W.heap[w6.heap.size]? = _)
        have k1 := cell_of_one hsb
        have k2 := cell_of_one hwb
        have k3 := hT.2.1.cell
        have k5 := hT.2.2.cell
        have k6 := hT.2.2.frozen
        have hrW := HR9.out.kept hF ⟨by omega, by omega, by omega⟩ ⟨by omega, by omega, by omega⟩
        have hDlt := lt_of_block hK'
        have hBW := below_frm hB9 hB9.size hF (fun q hq => ⟨by omega, by omega, by omega⟩)
        have HBW := Lib.hid hBW
        have HRW := Lib.hid hrW
        have HK := Lib.hid hK'
        clear hT hF hsb hwb hrW hBW hK'
        gi_wp2_with fail
        have hws : IntKind.i64.wrap (st : Int) = (st : Int) := IntWalk.i64_in _ (by omega)
        have hLen := fun (W' : World) (hf : Frm (fun _ => True) W W') => len_any b g 50 hd H W' (HRW.out.kept hf trivial trivial)
        have HLEN := Lib.hid hLen
        clear hLen
        have hst3 : ∀ v, (W.setCell ⟨w.heap.size + 1, 0, none⟩ v).cell? ⟨w6.heap.size + 1, 0, none⟩ = some (.int .i64 st) ∧ (W.setCell ⟨w.heap.size + 1, 0, none⟩ v).cell? ⟨w.heap.size, 0, none⟩ = some (.int .u8 st) ∧ (W.setCell ⟨w.heap.size + 1, 0, none⟩ v).cell? ⟨w6.heap.size, 0, none⟩ = some (.slice op H.length cp) := fun v =>
          ⟨(World.cell?_setCell_other _ _ _ _ (fun e => by have := congrArg Addr.block e; simp only at this; omega)).trans k3, (World.cell?_setCell_other _ _ _ _ (fun e => by have := congrArg Addr.block e; simp only at this; omega)).trans k1, (World.cell?_setCell_other _ _ _ _ (fun e => by have := congrArg Addr.block e; simp only at this; omega)).trans k2⟩
        have HST3 := Lib.hid hst3
        clear hst3
        have hh : ¬ (H.length : Int) < (st : Int) := by omega
        refine wpIn_wide.2 ?_
        go_region_held3 (fun w' => w'.cell? ⟨w6.heap.size + 1, 0, none⟩ = some (.int .i64 st) ∧ w'.cell? ⟨w.heap.size, 0, none⟩ = some (.int .u8 st) ∧ w'.cell? ⟨w6.heap.size, 0, none⟩ = some (.slice op H.length cp))
          (first | exact ⟨k3, k1, k2⟩ | exact HST3.out _)
          ((go_at_call 11; (with_reducible refine (HLEN.out _ ?_).mono ?_); exact (Frm.refl (fun _ => True) _).drew; rintro e w' ⟨rfl, rfl⟩))
        have hK2 := (KeepsOthers.setCell W ⟨w.heap.size + 1, 0, none⟩ (.bool true)).same D _ HK.out rfl
        have hK3 : ((W.setCell ⟨w.heap.size + 1, 0, none⟩ (.bool true)).drew).heap[D]? = some (.deferred (some [])) := hK2
        have hc4 : ((W.setCell ⟨w.heap.size + 1, 0, none⟩ (.bool true)).putObj D (.deferred none)).cell? ⟨w.heap.size + 1, 0, none⟩ = some (.bool true) := cell_kept (World.cell?_setCell_same W ⟨w.heap.size + 1, 0, none⟩ (.bool true) k5) (grownBy_putObj' _ D (.deferred none)) (fun r e => by cases e; exact ⟨_, hK2, rfl⟩)
        have hc5 : (((W.setCell ⟨w.heap.size + 1, 0, none⟩ (.bool true)).drew).putObj D (.deferred none)).cell? ⟨w.heap.size + 1, 0, none⟩ = some (.bool true) := hc4
        have hBZ : Below w.heap.size w (((W.setCell ⟨w.heap.size + 1, 0, none⟩ (.bool true)).drew).putObj D (.deferred none)) := ((HBW.out.setCell (p := ⟨w.heap.size + 1, 0, none⟩) (by show w.heap.size ≤ w.heap.size + 1; omega) (.bool true)).drew).trans (belowK_b (w := w9) (by omega) _ D _ (.deferred none) hD hK3 rfl rfl)
        have HK3 := Lib.hid hK3
        have HC5 := Lib.hid hc5
        have HBZ := Lib.hid hBZ
        clear hK2 hK3 hc4 hc5 hBZ
        gi_wp2
        refine ⟨by simp, .inl ⟨_, _, rfl, run_takeDeferred HK3.out, ?_⟩⟩
        refine ⟨.bool true, ?_, rfl, HBZ.out⟩
        have hc5 := HC5.out
        simp [results, Try.f4, go_sem, hc5]
      · exact (hn (by have := hpre.map Prod.snd; rwa [tells_snd] at this)).elim
  · have k1 := HR1.out.cell
    have k2 := HR1.out.frozen
    have r2 := HR1.out.set (.bool true)
    have k3 := r2.cell
    have hBZ := hB1.setCell (p := ⟨w.heap.size + 1, 0, none⟩) (by show w.heap.size ≤ w.heap.size + 1; omega) (.bool true)
    have HBZ := Lib.hid hBZ
    clear hBZ r2 r1
    gi_wp2_with fail
    refine ⟨.bool true, ?_, rfl, HBZ.out⟩
    simp [results, Try.f4, go_sem, k3]
end Go.Proofs.Ytmgkomobamjneaa
