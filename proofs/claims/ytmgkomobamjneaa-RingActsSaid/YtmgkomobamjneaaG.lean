/-
  The contracts of All, Peek, Read.
-/
import Derived.Test.YtmgkomobamjneaaF
import Derived.RangeFuncWrites
import Derived.RangeFuncFrom
import Derived.RangeFuncBox
namespace Go.Proofs.Ytmgkomobamjneaa
open Go.RowKit Go.Shelf
attribute [local go_sem] Oper.semAt_some

theorem all_any (p : Option Addr) (w : World) : Calls Try.prog 17 #[.pointer p] w fun e w' => e = .returned (.func (.func 26) #[] #[.pointer (some ⟨w.heap.size, 0, none⟩)]) ∧ w.alloc (.cells #[.pointer p] 24) = w' := by
  go_enter Try.func17, Try.ntmps17
  go_wp2
  go_ret
  exact ⟨rfl, rfl⟩

theorem frmK_t {ok : Nat → Prop} {A B C : World} (h : Frm ok A B) (k : Frm ok B C) : Frm ok A C := h.trans k
theorem frmK_b {b g B : Nat} {w : World} (h1 : b < w.heap.size) (h2 : g < w.heap.size) (h3 : B < w.heap.size) (W : World) (l : Nat) (o o' : Obj) (hl : w.heap.size ≤ l) (_ : W.heap[l]? = some o) (_ : o.isCells = false) (_ : o.isWalk = false) : Frm (okR b g B) W (W.putObj l o') :=
  (Frm.refl _ W).grown (grownBy_putObj' W l o') (fun k e _ hk => by cases e; rcases hk with rfl | rfl | rfl <;> omega)

theorem frm_okR {b g Br Bn : Nat} {W W' : World} (hb : Below Bn W W') (h1 : b < Bn) (h2 : g < Bn) (h3 : W'.heap[Br]? = W.heap[Br]?) : Frm (okR b g Br) W W' :=
  ⟨hb.os, hb.tape, hb.output, hb.size, fun k _ hk => by
    rcases hk with rfl | rfl | rfl
    · exact hb.block _ h1
    · exact hb.block _ h2
    · exact h3⟩

/-- A byte that is told. -/
def bvT (x : Nat × UInt8) : Value := .int .u8 (x.2.toNat : Int)

set_option maxRecDepth 100000 in
set_option maxHeartbeats 4000000 in
theorem peek_any (b g N h : Nat) (l : List UInt8) (n : Int) (w : World) (hr : Rng w b g N h l) (hn : n ≤ 9223372036854775807) :
    Calls Try.prog 16 #[.pointer (some ⟨b, 0, none⟩), .int .i64 n] w fun e w' => ∃ o c, e = .returned (.slice o (cut n l.length) c) ∧ w'.ownsRow w.heap.size 5 1 (.slice o (cut n l.length) c) (cut n l.length) ((l.take (cut n l.length)).map byteVal) ∧ Below w.heap.size w w' := by
  obtain ⟨i0, hi, hz0, hz1, hz2⟩ := info_parts Try.info5
  obtain ⟨c0, c1, c2, f0, f1, f2⟩ := row3 hr.row
  obtain ⟨hh, hl, hN, hb, hg⟩ := hr.bd
  have hc := cut_le n l.length
  refine (callsIn_wide (n := 4)).1 ?_
  refine callsIn_of_wp_marks Try.func16 rfl trivial ?_ rfl
  simp only [Try.ntmps16, List.size_toArray, List.length_cons, List.length_nil, Nat.reduceAdd, Nat.reduceSub, Array.replicate_succ, Array.replicate_zero, List.push_toArray, List.append_toArray, List.nil_append, List.cons_append]
  have hcase : (n < 0 ∧ cut n l.length = 0) ∨ (0 ≤ n ∧ n ≤ l.length ∧ ((cut n l.length : Nat) : Int) = n) ∨ ((l.length : Int) < n ∧ cut n l.length = l.length) := by
    unfold cut
    by_cases h0 : n < 0
    · exact .inl ⟨h0, if_pos h0⟩
    · rw [if_neg h0]
      by_cases h1 : n ≤ l.length
      · exact .inr (.inl ⟨by omega, h1, by omega⟩)
      · exact .inr (.inr ⟨by omega, by omega⟩)
  have HR := Lib.hid hr
  clear hr
  rcases hcase with ⟨h0, hK⟩ | ⟨h0, h1, hK⟩ | ⟨h1, hK⟩
  · rw [hK]
    clear hK hc
    gi_wp2_with fail
    gi_region
    have hB1 : Below w.heap.size w (w.alloc (.cells #[.int .i64 0] 3)).drew := ((Below.refl _ w).alloc (Nat.le_refl _) _).drew
    have hx1 : Boxed (w.alloc (.cells #[.int .i64 0] 3)).drew w.heap.size 3 (.int .i64 0) := World.alloc_heap_new w _
    generalize (w.alloc (.cells #[.int .i64 0] 3)).drew = w1 at *
    have hk1 := hx1.cell
    have hlt1 := hx1.lt
    have HX1 := Lib.hid hx1
    clear hx1 c0 c1 c2 f0 f1 f2
    gi_wp2_with (gi_at_make; refine wpListIn_make_own _ rfl _ _ 22 rfl w.heap.size 5 i0 (.int .u8 0) 1 Try.underlying22 hi hz0 hz1 .i64 .i64 _ 0 rfl rfl rfl ?z1 ?z2 ?z3 ?_)
    case z1 => omega
    case z2 => unfold maxLen; omega
    case z3 => omega
    intro w2 hown2 hgrow2
    have hB2 : Below w.heap.size w w2 := hB1.grown hgrow2 (by omega) (fun k e => by cases e)
    have hx2 := HX1.out.kept hgrow2 (by simp)
    have hlt2 := hx2.lt
    have hx3 := hx2.alloc (.cells #[.slice (some ⟨w1.heap.size, 0, none⟩) 0 0] 22)
    have hk2 := hx3.cell
    have ho3 : Boxed (w2.alloc (.cells #[.slice (some ⟨w1.heap.size, 0, none⟩) 0 0] 22)) w2.heap.size 22 (.slice (some ⟨w1.heap.size, 0, none⟩) 0 0) := World.alloc_heap_new w2 _
    have hko := ho3.cell
    have hown3 := hown2.alloc (.cells #[.slice (some ⟨w1.heap.size, 0, none⟩) 0 0] 22)
    have hB3 := hB2.alloc hB2.size (.cells #[.slice (some ⟨w1.heap.size, 0, none⟩) 0 0] 22)
    have HOWN3 := Lib.hid hown3
    clear hx2 hx3 ho3 hown2 hown3 hk1 hgrow2
    gi_wp2_with fail
    refine ⟨.slice (some ⟨w1.heap.size, 0, none⟩) 0 0, ?_, ?_⟩
    · simp [results, Try.f16, go_sem]
    · exact ⟨_, _, rfl, HOWN3.out, hB3⟩
  · generalize cut n l.length = K at *
    subst hK
    gi_wp2_with fail
    gi_region
    have hB1 : Below w.heap.size w (w.alloc (.cells #[.int .i64 K] 3)).drew := ((Below.refl _ w).alloc (Nat.le_refl _) _).drew
    have hx1 : Boxed (w.alloc (.cells #[.int .i64 K] 3)).drew w.heap.size 3 (.int .i64 K) := World.alloc_heap_new w _
    generalize (w.alloc (.cells #[.int .i64 K] 3)).drew = w1 at *
    have hk1 := hx1.cell
    have hlt1 := hx1.lt
    have HX1 := Lib.hid hx1
    clear hx1 c0 c1 c2 f0 f1 f2
    obtain ⟨cp, hp1, hp2⟩ : ∃ cp : Nat, cp ≤ K ∧ K ≤ cp := ⟨K, Nat.le_refl _, Nat.le_refl _⟩
    gi_wp2_with (gi_at_make; refine wpListIn_make_own _ rfl _ _ 22 rfl w.heap.size 5 i0 (.int .u8 0) 1 Try.underlying22 hi hz0 hz1 .i64 .i64 _ cp rfl rfl ?c0 ?c1 ?c2 ?c3 ?_)
    case c0 => omega
    case c1 => rw [hz2]; omega
    case c2 => unfold maxLen; omega
    case c3 => omega
    intro w2 hown2 hgrow2
    have hB2 : Below w.heap.size w w2 := hB1.grown hgrow2 (by omega) (fun k e => by cases e)
    have hx2 := HX1.out.kept hgrow2 (by simp)
    have hlt2 := hx2.lt
    have hx3 := hx2.alloc (.cells #[.slice (some ⟨w1.heap.size, 0, none⟩) 0 cp] 22)
    have hk2 := hx3.cell
    have ho3 : Boxed (w2.alloc (.cells #[.slice (some ⟨w1.heap.size, 0, none⟩) 0 cp] 22)) w2.heap.size 22 (.slice (some ⟨w1.heap.size, 0, none⟩) 0 cp) := World.alloc_heap_new w2 _
    have hko := ho3.cell
    have hown3 := hown2.alloc (.cells #[.slice (some ⟨w1.heap.size, 0, none⟩) 0 cp] 22)
    have hB3 := hB2.alloc hB2.size (.cells #[.slice (some ⟨w1.heap.size, 0, none⟩) 0 cp] 22)
    have hlto := ho3.lt
    have HX3 := Lib.hid hx3
    have HO3 := Lib.hid ho3
    have HOWN3 := Lib.hid hown3
    clear hx2 hx3 ho3 hown2 hown3 hk1 hgrow2
    by_cases hK0 : K ≤ 0
    · have hd : ((K : Int) == 0) = true := by simp; omega
      gi_wp2_with fail
      refine ⟨.slice (some ⟨w1.heap.size, 0, none⟩) 0 cp, ?_, ?_⟩
      · simp [results, Try.f16, go_sem]
      · obtain rfl : K = 0 := by omega
        exact ⟨_, _, rfl, HOWN3.out, hB3⟩
    · have hd : ((K : Int) == 0) = false := by simp; omega
      gi_wp2_with fail
      generalize (w2.alloc (.cells #[.slice (some ⟨w1.heap.size, 0, none⟩) 0 cp] 22)) = w3 at *
      refine ⟨trivial, ?_⟩
      gi_at_call 17
      refine (callsIn_wide.2 (all_any _ _)).mono ?_
      rintro e w' ⟨rfl, rfl⟩
      have hR4 := HR.out.kept (Frm.of_below (ok := fun q => q < w.heap.size) hB3 (fun q _ hq => hq)) hb hg
      have hR4 := hR4.kept ((Frm.refl (fun _ => True) _).alloc (.cells #[.pointer (some ⟨b, 0, none⟩)] 24)) trivial trivial
      have hbox4 : (w3.alloc (.cells #[.pointer (some ⟨b, 0, none⟩)] 24)).heap[w3.heap.size]? = some (.cells #[.pointer (some ⟨b, 0, none⟩)] 24 (0, 0)) := World.alloc_heap_new w3 _
      have hx4 := HX3.out.alloc (.cells #[.pointer (some ⟨b, 0, none⟩)] 24)
      have ho4 := HO3.out.alloc (.cells #[.pointer (some ⟨b, 0, none⟩)] 24)
      have hown4 := HOWN3.out.alloc (.cells #[.pointer (some ⟨b, 0, none⟩)] 24)
      have hB4 := hB3.alloc hB3.size (.cells #[.pointer (some ⟨b, 0, none⟩)] 24)
      have hlt4 : w3.heap.size < (w3.alloc (.cells #[.pointer (some ⟨b, 0, none⟩)] 24)).heap.size := by simp
      have hlt3 := hB3.size
      generalize (w3.alloc (.cells #[.pointer (some ⟨b, 0, none⟩)] 24)) = w4 at *
      generalize w3.heap.size = Br at *
      generalize hBn : w.heap.size = Bn at *
      generalize w2.heap.size = Bo at *
      gi_wp2_with fail
      refine wpIn_rangeFunc_ownG rfl (by omega) (gf := 26) (lb := #[.pointer (some ⟨Br, 0, none⟩)]) rfl trivial (enters_of Try.func26 (by kernel_rfl) rfl)
        (all_stops _ (by omega) b g Br N h l w4 hR4 hbox4) frmK_t (frmK_b (by omega) (by omega) (by omega)) (Below.refl _ _) (fun _ => rfl)
        (fun (pre : List (Nat × UInt8)) W => (∃ v, Boxed W Bo 22 v ∧ W.ownsRow Bn 5 1 v pre.length (pre.map bvT) ∧ True) ∧ Boxed W Bn 3 (.int .i64 K) ∧ Boxed W Br 24 (.pointer (some ⟨b, 0, none⟩)) ∧ pre.length < K ∧ Below Bn w W)
        (fun c (pre : List (Nat × UInt8)) W => (∃ v, Boxed W Bo 22 v ∧ W.ownsRow Bn 5 1 v pre.length (pre.map bvT) ∧ True) ∧ (c = .exit 0 ∧ pre.length = K) ∧ Below Bn w W)
        (OwnFrom.and ((holdsRow_own Bn Bo 22 5 1 _ _ (fun _ _ => True)).from _) (OwnFrom.and ((boxed_own Bn 3 _).from _) (OwnFrom.and ((boxed_own Br 24 _).from _) (OwnFrom.and (ownFrom_pure _ _) (ownFrom_below (by omega) (by omega))))))
        (fun c => OwnFrom.and ((holdsRow_own Bn Bo 22 5 1 _ _ (fun _ _ => True)).from _) (OwnFrom.and (ownFrom_pure _ (fun pre : List (Nat × UInt8) => c = .exit 0 ∧ pre.length = K)) (ownFrom_below (by omega) (by omega))))
        ⟨⟨_, ho4, hown4, trivial⟩, hx4, hbox4, by show 0 < K; omega, hB4⟩
        (fun x => { tmps := #[.pointer (some ⟨b, 0, none⟩), .int .i64 K, undef, .pointer (some ⟨Bn, 0, none⟩), .slice none 0 0, .pointer (some ⟨Bo, 0, none⟩), undef, .int .u8 (x.2.toNat : Int), .int .i64 K, .int .i64 K, .pointer (some ⟨b, 0, none⟩),
          .pointer (some ⟨b, 0, none⟩), .pointer (some ⟨b, 2, none⟩), .int .i64 l.length, .int .i64 K, .int .i64 K, .slice (some ⟨w1.heap.size, 0, none⟩) 0 cp, .int .i64 K, .bool false, undef, .pointer (some ⟨b, 0, none⟩),
          .func (.func 26) #[] #[.pointer (some ⟨Br, 0, none⟩)], .int .i64 (x.1 : Nat), .int .u8 (x.2.toNat : Int), undef, undef, undef, undef, undef, undef, undef, undef, undef], defers := [] }) ?assignA ?bodyA ?doneA ?stopA
      case assignA =>
        intro y x W K' hK'
        unfold encT
        gi_wp2
        exact hK'
      case bodyA =>
        rintro y pre x W ⟨⟨v, hv, hrow, _⟩, hn3, hr3, hlt, hBB⟩ _
        have hBW : Bn ≤ W.heap.size := by have := hBB.size; omega
        have hcv := hv.cell
        have hlv := hv.lt
        have hlen : (pre ++ [x]).length = pre.length + 1 := by simp
        have hmap : (pre ++ [x]).map bvT = pre.map bvT ++ [.int .u8 (x.2.toNat : Int)] := by rw [List.map_append]; rfl
        have HLen := Lib.hid hlen
        have HMap := Lib.hid hmap
        have HV := Lib.hid hv
        have HN := Lib.hid hn3
        have HRB := Lib.hid hr3
        clear hlen hmap hv hn3 hr3
        gi_wp2_with (gi_at_builtin; refine wpListIn_append_own _ rfl _ _ 22 rfl Bn 5 i0 (.int .u8 0) 1 1 Try.underlying22 hi hz0 hz1 hz2 rfl (by decide) _ _ _ rfl (hrow.alloc _) ⟨W.heap.size, 0, none⟩ 1 1 [.int .u8 (x.2.toNat : Int)] rfl rfl (cell_one_new _ _ _) (by simp [Value.oneCell']) ?eA1 ?eA2 ?eA3 ?_)
        case eA1 => unfold maxLen; omega
        case eA2 => omega
        case eA3 => simp; omega
        intro v' w5 hown' hgrow _
        obtain ⟨a1, a2, a3, a4, a5⟩ := HV.out.appended (by decide) hrow hBW (by omega) hown' hgrow
        have hr5 := (HRB.out.alloc _).kept hgrow (HRB.out.not_row (by decide) hrow)
        have hn5 := (HN.out.alloc _).kept hgrow (HN.out.not_row (by decide) hrow)
        have hr6 := hr5.other (B' := Bo) (by omega) v'
        have hn6 := hn5.other (B' := Bo) (by omega) v'
        obtain ⟨gq, cap, rfl⟩ := ownsRow_succ hown'
        have k1 := a1.cell
        have k2 := a1.frozen
        have k3 := a2.cell
        have k4 := hn6.cell
        have hB6 := hBB.trans a5
        have hF6 := frm_okR (b := b) (g := g) (Br := Br) a5 (by omega) (by omega) (hr6.trans HRB.out.symm)
        have HA2 := Lib.hid a2
        have HA3 := Lib.hid a3
        have HN6 := Lib.hid hn6
        have HR6 := Lib.hid hr6
        clear a1 a2 a3 hr5 hn5 hr6 hn6 hown' hgrow hrow hcv
        by_cases hq : pre.length + 1 = K
        · have hq1 : (((pre.length : Int) + 1) == (K : Int)) = true := by simp; omega
          have HQ := Lib.hid hq
          clear hq
          gi_wp2
          exact ⟨a4.from _, ⟨_, HA2.out, by rw [HLen.out, HMap.out]; exact HA3.out, trivial⟩, ⟨rfl, by rw [HLen.out, HQ.out]⟩, hB6⟩
        · have hq1 : (((pre.length : Int) + 1) == (K : Int)) = false := by simp; omega
          gi_wp2
          exact ⟨a4.from _, hF6, ⟨_, HA2.out, by rw [HLen.out, HMap.out]; exact HA3.out, trivial⟩, HN6.out, HR6.out, by rw [HLen.out]; omega, hB6⟩
      case doneA =>
        rintro D xs W hD rfl ⟨_, _, _, hlt, _⟩ hK'
        rw [tells_len] at hlt
        omega
      case stopA =>
        rintro D c pre W hD hpre ⟨⟨v, hv, hrow, _⟩, ⟨rfl, hlen⟩, hBB⟩ hK'
        have hpm : pre.map bvT = (l.take K).map byteVal := by
          have e := List.prefix_iff_eq_take.1 hpre
          rw [e, hlen, ← tells_take_snd N h l K, List.map_map]
          rfl
        rw [hpm, hlen] at hrow
        obtain ⟨o, c, rfl⟩ := owns_form hrow
        have hcv := hv.cell
        have HROW := Lib.hid hrow
        have HDD := Lib.hid hK'
        have HBB := Lib.hid hBB
        have HBN := Lib.hid hBn
        clear hpm hrow hK' hBB hBn
        gi_wp2
        refine ⟨by simp, .inl ⟨_, _, rfl, run_takeDeferred HDD.out, ?_⟩⟩
        refine ⟨.slice o K c, ?_, o, c, rfl, ?_, ?_⟩
        · simp [results, Try.f16, go_sem]
        · rw [HBN.out]; exact ownsRow_putObj HROW.out _ HDD.out rfl
        · rw [HBN.out]; exact HBB.out.trans (belowK_b (w := w4) (by omega) W D _ _ hD HDD.out rfl rfl)
  · rw [hK]
    clear hK hc
    gi_wp2_with fail
    gi_region
    have hB1 : Below w.heap.size w (w.alloc (.cells #[.int .i64 l.length] 3)).drew := ((Below.refl _ w).alloc (Nat.le_refl _) _).drew
    have hx1 : Boxed (w.alloc (.cells #[.int .i64 l.length] 3)).drew w.heap.size 3 (.int .i64 l.length) := World.alloc_heap_new w _
    generalize (w.alloc (.cells #[.int .i64 l.length] 3)).drew = w1 at *
    have hk1 := hx1.cell
    have hlt1 := hx1.lt
    have HX1 := Lib.hid hx1
    clear hx1 c0 c1 c2 f0 f1 f2
    obtain ⟨cp, hp1, hp2⟩ : ∃ cp : Nat, cp ≤ l.length ∧ l.length ≤ cp := ⟨l.length, Nat.le_refl _, Nat.le_refl _⟩
    gi_wp2_with (gi_at_make; refine wpListIn_make_own _ rfl _ _ 22 rfl w.heap.size 5 i0 (.int .u8 0) 1 Try.underlying22 hi hz0 hz1 .i64 .i64 _ cp rfl rfl ?kc0 ?kc1 ?kc2 ?kc3 ?_)
    case kc0 => omega
    case kc1 => rw [hz2]; omega
    case kc2 => unfold maxLen; omega
    case kc3 => omega
    intro w2 hown2 hgrow2
    have hB2 : Below w.heap.size w w2 := hB1.grown hgrow2 (by omega) (fun k e => by cases e)
    have hx2 := HX1.out.kept hgrow2 (by simp)
    have hlt2 := hx2.lt
    have hx3 := hx2.alloc (.cells #[.slice (some ⟨w1.heap.size, 0, none⟩) 0 cp] 22)
    have hk2 := hx3.cell
    have ho3 : Boxed (w2.alloc (.cells #[.slice (some ⟨w1.heap.size, 0, none⟩) 0 cp] 22)) w2.heap.size 22 (.slice (some ⟨w1.heap.size, 0, none⟩) 0 cp) := World.alloc_heap_new w2 _
    have hko := ho3.cell
    have hown3 := hown2.alloc (.cells #[.slice (some ⟨w1.heap.size, 0, none⟩) 0 cp] 22)
    have hB3 := hB2.alloc hB2.size (.cells #[.slice (some ⟨w1.heap.size, 0, none⟩) 0 cp] 22)
    have hlto := ho3.lt
    have HX3 := Lib.hid hx3
    have HO3 := Lib.hid ho3
    have HOWN3 := Lib.hid hown3
    clear hx2 hx3 ho3 hown2 hown3 hk1 hgrow2
    by_cases hK0 : l.length ≤ 0
    · have hd : ((l.length : Int) == 0) = true := beq_iff_eq.2 (by omega)
      gi_wp2_with fail
      refine ⟨.slice (some ⟨w1.heap.size, 0, none⟩) 0 cp, ?_, ?_⟩
      · simp [results, Try.f16, go_sem]
      · have hz : l.length = 0 := by omega
        rw [hz]
        exact ⟨_, _, rfl, HOWN3.out, hB3⟩
    · have hd : ((l.length : Int) == 0) = false := beq_eq_false_iff_ne.2 (by omega)
      gi_wp2_with fail
      generalize (w2.alloc (.cells #[.slice (some ⟨w1.heap.size, 0, none⟩) 0 cp] 22)) = w3 at *
      refine ⟨trivial, ?_⟩
      gi_at_call 17
      refine (callsIn_wide.2 (all_any _ _)).mono ?_
      rintro e w' ⟨rfl, rfl⟩
      have hR4 := HR.out.kept (Frm.of_below (ok := fun q => q < w.heap.size) hB3 (fun q _ hq => hq)) hb hg
      have hR4 := hR4.kept ((Frm.refl (fun _ => True) _).alloc (.cells #[.pointer (some ⟨b, 0, none⟩)] 24)) trivial trivial
      have hbox4 : (w3.alloc (.cells #[.pointer (some ⟨b, 0, none⟩)] 24)).heap[w3.heap.size]? = some (.cells #[.pointer (some ⟨b, 0, none⟩)] 24 (0, 0)) := World.alloc_heap_new w3 _
      have hx4 := HX3.out.alloc (.cells #[.pointer (some ⟨b, 0, none⟩)] 24)
      have ho4 := HO3.out.alloc (.cells #[.pointer (some ⟨b, 0, none⟩)] 24)
      have hown4 := HOWN3.out.alloc (.cells #[.pointer (some ⟨b, 0, none⟩)] 24)
      have hB4 := hB3.alloc hB3.size (.cells #[.pointer (some ⟨b, 0, none⟩)] 24)
      have hlt4 : w3.heap.size < (w3.alloc (.cells #[.pointer (some ⟨b, 0, none⟩)] 24)).heap.size := by simp
      have hlt3 := hB3.size
      generalize (w3.alloc (.cells #[.pointer (some ⟨b, 0, none⟩)] 24)) = w4 at *
      generalize w3.heap.size = Br at *
      generalize hBn : w.heap.size = Bn at *
      generalize w2.heap.size = Bo at *
      gi_wp2_with fail
      refine wpIn_rangeFunc_ownG rfl (by omega) (gf := 26) (lb := #[.pointer (some ⟨Br, 0, none⟩)]) rfl trivial (enters_of Try.func26 (by kernel_rfl) rfl)
        (all_stops _ (by omega) b g Br N h l w4 hR4 hbox4) frmK_t (frmK_b (by omega) (by omega) (by omega)) (Below.refl _ _) (fun _ => rfl)
        (fun (pre : List (Nat × UInt8)) W => (∃ v, Boxed W Bo 22 v ∧ W.ownsRow Bn 5 1 v pre.length (pre.map bvT) ∧ True) ∧ Boxed W Bn 3 (.int .i64 l.length) ∧ Boxed W Br 24 (.pointer (some ⟨b, 0, none⟩)) ∧ pre.length < l.length ∧ Below Bn w W)
        (fun c (pre : List (Nat × UInt8)) W => (∃ v, Boxed W Bo 22 v ∧ W.ownsRow Bn 5 1 v pre.length (pre.map bvT) ∧ True) ∧ (c = .exit 0 ∧ pre.length = l.length) ∧ Below Bn w W)
        (OwnFrom.and ((holdsRow_own Bn Bo 22 5 1 _ _ (fun _ _ => True)).from _) (OwnFrom.and ((boxed_own Bn 3 _).from _) (OwnFrom.and ((boxed_own Br 24 _).from _) (OwnFrom.and (ownFrom_pure _ _) (ownFrom_below (by omega) (by omega))))))
        (fun c => OwnFrom.and ((holdsRow_own Bn Bo 22 5 1 _ _ (fun _ _ => True)).from _) (OwnFrom.and (ownFrom_pure _ (fun pre : List (Nat × UInt8) => c = .exit 0 ∧ pre.length = l.length)) (ownFrom_below (by omega) (by omega))))
        ⟨⟨_, ho4, hown4, trivial⟩, hx4, hbox4, by show 0 < l.length; omega, hB4⟩
        (fun x => { tmps := #[.pointer (some ⟨b, 0, none⟩), .int .i64 n, undef, .pointer (some ⟨Bn, 0, none⟩), .slice none 0 0, .pointer (some ⟨Bo, 0, none⟩), undef, .int .u8 (x.2.toNat : Int), .int .i64 n, .int .i64 n, .pointer (some ⟨b, 0, none⟩),
          .pointer (some ⟨b, 0, none⟩), .pointer (some ⟨b, 2, none⟩), .int .i64 l.length, .int .i64 l.length, .int .i64 l.length, .slice (some ⟨w1.heap.size, 0, none⟩) 0 cp, .int .i64 l.length, .bool false, undef, .pointer (some ⟨b, 0, none⟩),
          .func (.func 26) #[] #[.pointer (some ⟨Br, 0, none⟩)], .int .i64 (x.1 : Nat), .int .u8 (x.2.toNat : Int), undef, undef, undef, undef, undef, undef, undef, undef, undef], defers := [] }) ?assignC ?bodyC ?doneC ?stopC
      case assignC =>
        intro y x W K' hK'
        unfold encT
        gi_wp2
        exact hK'
      case bodyC =>
        rintro y pre x W ⟨⟨v, hv, hrow, _⟩, hn3, hr3, hlt, hBB⟩ _
        have hBW : Bn ≤ W.heap.size := by have := hBB.size; omega
        have hcv := hv.cell
        have hlv := hv.lt
        have hlen : (pre ++ [x]).length = pre.length + 1 := by simp
        have hmap : (pre ++ [x]).map bvT = pre.map bvT ++ [.int .u8 (x.2.toNat : Int)] := by rw [List.map_append]; rfl
        have HLen := Lib.hid hlen
        have HMap := Lib.hid hmap
        have HV := Lib.hid hv
        have HN := Lib.hid hn3
        have HRB := Lib.hid hr3
        clear hlen hmap hv hn3 hr3
        gi_wp2_with (gi_at_builtin; refine wpListIn_append_own _ rfl _ _ 22 rfl Bn 5 i0 (.int .u8 0) 1 1 Try.underlying22 hi hz0 hz1 hz2 rfl (by decide) _ _ _ rfl (hrow.alloc _) ⟨W.heap.size, 0, none⟩ 1 1 [.int .u8 (x.2.toNat : Int)] rfl rfl (cell_one_new _ _ _) (by simp [Value.oneCell']) ?eC1 ?eC2 ?eC3 ?_)
        case eC1 => unfold maxLen; omega
        case eC2 => omega
        case eC3 => simp; omega
        intro v' w5 hown' hgrow _
        obtain ⟨a1, a2, a3, a4, a5⟩ := HV.out.appended (by decide) hrow hBW (by omega) hown' hgrow
        have hr5 := (HRB.out.alloc _).kept hgrow (HRB.out.not_row (by decide) hrow)
        have hn5 := (HN.out.alloc _).kept hgrow (HN.out.not_row (by decide) hrow)
        have hr6 := hr5.other (B' := Bo) (by omega) v'
        have hn6 := hn5.other (B' := Bo) (by omega) v'
        obtain ⟨gq, cap, rfl⟩ := ownsRow_succ hown'
        have k1 := a1.cell
        have k2 := a1.frozen
        have k3 := a2.cell
        have k4 := hn6.cell
        have hB6 := hBB.trans a5
        have hF6 := frm_okR (b := b) (g := g) (Br := Br) a5 (by omega) (by omega) (hr6.trans HRB.out.symm)
        have HA2 := Lib.hid a2
        have HA3 := Lib.hid a3
        have HN6 := Lib.hid hn6
        have HR6 := Lib.hid hr6
        clear a1 a2 a3 hr5 hn5 hr6 hn6 hown' hgrow hrow hcv
        by_cases hq : pre.length + 1 = l.length
        · have hq1 : (((pre.length : Int) + 1) == (l.length : Int)) = true := beq_iff_eq.2 (by omega)
          have HQ := Lib.hid hq
          clear hq
          gi_wp2
          exact ⟨a4.from _, ⟨_, HA2.out, by rw [HLen.out, HMap.out]; exact HA3.out, trivial⟩, ⟨rfl, by rw [HLen.out, HQ.out]⟩, hB6⟩
        · have hq1 : (((pre.length : Int) + 1) == (l.length : Int)) = false := beq_eq_false_iff_ne.2 (by omega)
          gi_wp2
          exact ⟨a4.from _, hF6, ⟨_, HA2.out, by rw [HLen.out, HMap.out]; exact HA3.out, trivial⟩, HN6.out, HR6.out, by rw [HLen.out]; omega, hB6⟩
      case doneC =>
        rintro D xs W hD rfl ⟨_, _, _, hlt, _⟩ hK'
        rw [tells_len] at hlt
        omega
      case stopC =>
        rintro D c pre W hD hpre ⟨⟨v, hv, hrow, _⟩, ⟨rfl, hlen⟩, hBB⟩ hK'
        have hpm : pre.map bvT = (l.take l.length).map byteVal := by
          have e := List.prefix_iff_eq_take.1 hpre
          rw [e, hlen, ← tells_take_snd N h l l.length, List.map_map]
          rfl
        rw [hpm, hlen] at hrow
        obtain ⟨o, c, rfl⟩ := owns_form hrow
        have hcv := hv.cell
        have HROW := Lib.hid hrow
        have HDD := Lib.hid hK'
        have HBB := Lib.hid hBB
        have HBN := Lib.hid hBn
        clear hpm hrow hK' hBB hBn
        gi_wp2
        refine ⟨by simp, .inl ⟨_, _, rfl, run_takeDeferred HDD.out, ?_⟩⟩
        refine ⟨.slice o l.length c, ?_, o, c, rfl, ?_, ?_⟩
        · simp [results, Try.f16, go_sem]
        · rw [HBN.out]; exact ownsRow_putObj HROW.out _ HDD.out rfl
        · rw [HBN.out]; exact HBB.out.trans (belowK_b (w := w4) (by omega) W D _ _ hD HDD.out rfl rfl)
end Go.Proofs.Ytmgkomobamjneaa
