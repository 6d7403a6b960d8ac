/-
  The walk of RingOwn.
-/
import Derived.Test.YtmgkomobamjneaaM
namespace Go.Proofs.Ytmgkomobamjneaa
open Go.RowKit

/-- Block g holds at least n bytes, whatever they are; they can be written. -/
def Row8 (w : World) (g n : Nat) : Prop := ∃ cs, w.heap[g]? = some (.cells cs 5 (0, 0)) ∧ ∀ j, j < n → ∃ x : Int, cs[j]? = some (.int .u8 x)
theorem Row8.kept {w w' : World} {g n : Nat} {ok : Nat → Prop} (h : Row8 w g n) (hf : Frm ok w w') (ho : ok g) : Row8 w' g n := by
  obtain ⟨cs, h1, h2⟩ := h
  exact ⟨cs, frm_block hf h1 ho, h2⟩
theorem Row8.cell {w : World} {g n j : Nat} (h : Row8 w g n) (hj : j < n) : (∃ x : Int, w.cell? ⟨g, j, none⟩ = some (.int .u8 x)) ∧ w.frozen? ⟨g, j, none⟩ = false := by
  obtain ⟨cs, h1, h2⟩ := h
  obtain ⟨x, hx⟩ := h2 j hj
  exact ⟨⟨x, by simp [World.cell?, h1, hx]⟩, by simp [World.frozen?, h1]⟩
theorem Row8.set {w : World} {g n : Nat} (h : Row8 w g n) (q j : Nat) (x : Int) : Row8 (w.setCell ⟨q, j, none⟩ (.int .u8 x)) g n := by
  by_cases hq : q = g
  · subst hq
    obtain ⟨cs, h1, h2⟩ := h
    refine ⟨_, row_setCell' h1, fun i hi => ?_⟩
    rw [Array.getElem?_setIfInBounds]
    by_cases e : j = i
    · subst e
      obtain ⟨y, hy⟩ := h2 j hi
      have := (Array.getElem?_eq_some_iff.1 hy).1
      exact ⟨x, by simp [this]⟩
    · rw [if_neg e]
      exact h2 i hi
  · exact h.kept ((Frm.refl (fun k => k ≠ q) w).setCell _ _ _ (fun _ h => h rfl)) (fun e => hq e.symm)

/-- The slice of n bytes at o can be written; its block is in 'ok'. -/
def Wr8 (ok : Nat → Prop) (w : World) (o : Option Addr) (n : Nat) : Prop := 0 < n → ∃ q, o = some ⟨q, 0, none⟩ ∧ ok q ∧ q < w.heap.size ∧ Row8 w q n
theorem Wr8.kept {ok ok' : Nat → Prop} {w w' : World} {o : Option Addr} {n : Nat} (h : Wr8 ok w o n) (hf : Frm ok' w w') (hm : ∀ q, q < w.heap.size → ok q → ok' q) : Wr8 ok w' o n := fun hn => by
  obtain ⟨q, e, h1, h2, h3⟩ := h hn
  exact ⟨q, e, h1, Nat.lt_of_lt_of_le h2 hf.size, h3.kept hf (hm q h2 h1)⟩
theorem Wr8.mono {ok ok' : Nat → Prop} {w : World} {o : Option Addr} {n : Nat} (h : Wr8 ok w o n) (hm : ∀ q, q < w.heap.size → ok q → ok' q) : Wr8 ok' w o n := fun hn => by
  obtain ⟨q, e, h1, h2, h3⟩ := h hn
  exact ⟨q, e, hm q h2 h1, h2, h3⟩
theorem Wr8.set {ok : Nat → Prop} {w : World} {o : Option Addr} {n : Nat} (h : Wr8 ok w o n) (q j : Nat) (x : Int) : Wr8 ok (w.setCell ⟨q, j, none⟩ (.int .u8 x)) o n := fun hn => by
  obtain ⟨q', e, h1, h2, h3⟩ := h hn
  exact ⟨q', e, h1, by rw [World.size_setCell]; exact h2, h3.set q j x⟩
theorem Wr8.of_owns {ok : Nat → Prop} {w : World} {B n : Nat} {o : Option Addr} {c : Nat} {l : List UInt8} (h : w.ownsRow B 5 1 (.slice o n c) n (l.map byteVal)) (hl : n = l.length) (hm : ∀ q, B ≤ q → q < w.heap.size → ok q) : Wr8 ok w o n := fun hn => by
  rcases h.2 with ⟨_, h0⟩ | ⟨g, cap, cur, e, h3, h4, h5, h6, h7, h8⟩
  · omega
  · cases e
    refine ⟨g, rfl, hm g h3 (lt_of_block h4), lt_of_block h4, cur, h4, fun j hj => ?_⟩
    have e : (cur.toList.take (n * 1))[j]? = (l.map byteVal)[j]? := by rw [h8]
    rw [List.getElem?_take, if_pos (by omega)] at e
    have hj' : j < l.length := by omega
    exact ⟨((l[j]).toNat : Int), by simpa [hj', byteVal] using e⟩

/-- The four slices can be written. -/
structure Four (ok : Nat → Prop) (w8 wr : World) (o0 o1 o2 o3 : Option Addr) (n0 n1 n2 n3 : Nat) : Prop where
  frm : Frm (fun q => ¬ ok q) w8 wr
  s0 : Wr8 ok wr o0 n0
  s1 : Wr8 ok wr o1 n1
  s2 : Wr8 ok wr o2 n2
  s3 : Wr8 ok wr o3 n3
theorem Four.set {ok : Nat → Prop} {w8 wr : World} {o0 o1 o2 o3 : Option Addr} {n0 n1 n2 n3 : Nat} (h : Four ok w8 wr o0 o1 o2 o3 n0 n1 n2 n3) (q j : Nat) (x : Int) (hq : ok q) : Four ok w8 (wr.setCell ⟨q, j, none⟩ (.int .u8 x)) o0 o1 o2 o3 n0 n1 n2 n3 :=
  ⟨h.frm.setCell _ _ _ (fun _ hn => hn hq), h.s0.set q j x, h.s1.set q j x, h.s2.set q j x, h.s3.set q j x⟩

set_option maxRecDepth 100000 in
set_option maxHeartbeats 8000000 in
theorem ringOwn_any (v : Value) (B : List UInt8) (w : World) (hv : Bytes (fun _ => True) w v B) (hBl : B.length ≤ 140737488351232) :
    Calls Try.prog 6 #[v] w fun e w' => e = .returned (.bool true) ∧ Below w.heap.size w w' := by
  obtain ⟨o, cap, rfl, hcl, hcm, _⟩ := hv.form
  have hvk : ∀ w', Below w.heap.size w w' → Bytes (fun q => q < w.heap.size) w' (.slice o B.length cap) B := fun w' hb => (hv.mono (ok' := fun q => q < w.heap.size) (fun q hq _ => hq)).kept (Frm.of_below (ok := fun q => q < w.heap.size) hb (fun q _ hq => hq)) (fun _ _ hq => hq)
  have hvt : ∀ w', Below w.heap.size w w' → Bytes (fun q => q < w.heap.size) w' (.slice o (room 30 0 B.length) cap) (B.take (room 30 0 B.length)) := fun w' hb => (hvk w' hb).take rfl (by unfold room; omega) hcl hcm
  unfold maxLen at hcm
  have HV := Lib.hid hvk
  have HVT := Lib.hid hvt
  clear hv hvk hvt
  go_enter Try.func6, Try.ntmps6
  go_wp2_with fail
  refine (wakes_any _).mono ?_
  rintro e w1 ⟨rfl, hB1⟩
  by_cases hlen : B.length ≤ 200
  · go_wp2_with fail
    refine (new_ok 30 w1 (by decide) (by decide)).mono ?_
    rintro e w2 ⟨b, g, rfl, hb, hg, hr2, hB2⟩
    have hB12 := hB1.trans (hB2.mono hB1.size)
    have hz1 := hB1.size
    have hbd2 := hr2.bd
    have hlit : (w2.alloc (.cells #[] 5)).ownsRow w2.heap.size 5 1 (.slice (some ⟨w2.heap.size, 0, none⟩) 0 0) 0 [] :=
      World.ownsRow_lit w2 #[] 0 (Nat.le_refl _) (by unfold maxLen; omega) rfl
    have hba := HV.out _ (hB12.alloc hB12.size (.cells #[] 5))
    have HLIT := Lib.hid hlit
    have HBA := Lib.hid hba
    have HR2 := Lib.hid hr2
    clear hlit hba hr2
    go_wp2_with (at_builtin; refine wpList_append_bytes_at (ok := fun q => q < w.heap.size) rfl _ _ rfl w2.heap.size _ 0 [] rfl HLIT.out _ B rfl HBA.out (by omega) (by simp) ?_; intro oi ci w3 hown3 hgrow3 hat3)
    have hown3' : w3.ownsRow w2.heap.size 5 1 (.slice oi B.length ci) B.length (B.map byteVal) := by simpa using hown3
    have F3 : Frm (fun q => q < w2.heap.size) w2 w3 := ((Frm.refl _ _).alloc _).grown hgrow3 (fun q hq _ hlt => by
      have e : some w2.heap.size = some q := hq
      cases e
      omega)
    have hr3 := HR2.out.kept F3 (by omega) (by omega)
    have hby3 : Bytes (fun q => w2.heap.size ≤ q) w3 (.slice oi B.length ci) B := Bytes.of_owns hown3' rfl (fun q hq _ => hq)
    have hs3 : Wr8 (fun q => w2.heap.size ≤ q) w3 oi B.length := Wr8.of_owns hown3' rfl (fun q hq _ => hq)
    have hb3 := below_frm hB12 hB12.size F3 (fun q hq => by have := hB2.size; omega)
    have hz3 := F3.size
    have hWr := write_any b g 30 0 [] (.slice oi B.length ci) B w3 hr3 hby3 (fun q hq => by omega) (by omega)
    rw [List.nil_append, show ([] : List UInt8).length = 0 from rfl] at hWr
    have hKe : room 30 0 B.length = min B.length 30 := rfl
    have hTl : (B.take (room 30 0 B.length)).length = room 30 0 B.length := by rw [List.length_take]; omega
    have HS3 := Lib.hid hs3
    have HWr := Lib.hid hWr
    have HTl := Lib.hid hTl
    have hK : room 30 0 B.length ≤ 30 ∧ room 30 0 B.length ≤ B.length ∧ (B.length ≤ 30 → B.length ≤ room 30 0 B.length) ∧ (30 < B.length → 30 ≤ room 30 0 B.length) := by omega
    clear hown3 hown3' hgrow3 hat3 hr3 hby3 hs3 hWr hKe hTl
    generalize room 30 0 B.length = K at *
    generalize B.take K = T at *
    go_wp2_with fail
    refine HWr.out.mono ?_
    rintro e w4 ⟨rfl, hr4, hf4⟩
    have HS4 := Lib.hid (HS3.out.kept hf4 (fun q hq hq2 => ⟨by omega, by omega⟩))
    have hb4 := below_frm hb3 hb3.size hf4 (fun q hq => ⟨by omega, by omega⟩)
    have hz4 := hf4.size
    have HR4 := Lib.hid hr4
    clear hr4
    go_wp2_with fail
    refine (spans_any b g 30 0 T w4 HR4.out).mono ?_
    rintro e w6 ⟨oa, ca, ob, cb, w5, rfl, hown5, hown6, hB5, hB6⟩
    have hz5 := hB5.size
    have hz6 := hB6.size
    have hfl : fst 30 0 T.length ≤ T.length := fst_le _ _ _
    have hsa : Wr8 (fun q => w4.heap.size ≤ q) w5 oa (fst 30 0 T.length) := Wr8.of_owns hown5 (by rw [List.length_take]; omega) (fun q hq _ => hq)
    have hsb : Wr8 (fun q => w4.heap.size ≤ q) w6 ob (T.length - fst 30 0 T.length) := Wr8.of_owns hown6 List.length_drop.symm (fun q hq _ => by omega)
    have F5 := Frm.of_below (ok := fun _ => True) hB5 (fun q hq _ => hq)
    have F6 := Frm.of_below (ok := fun _ => True) hB6 (fun q hq _ => hq)
    have hs6 := (HS4.out.kept F5 (fun _ _ _ => trivial)).kept F6 (fun _ _ _ => trivial)
    have hsa6 := hsa.kept F6 (fun _ _ _ => trivial)
    have hr6 := (HR4.out.kept F5 trivial trivial).kept F6 trivial trivial
    have hb6 := (hb4.trans (hB5.mono hb4.size)).trans (hB6.mono (Nat.le_trans hb4.size hz5))
    have hTK : T.length ≤ 30 := by rw [HTl.out]; omega
    have HS6 := Lib.hid hs6
    have HSA6 := Lib.hid hsa6
    have HSB6 := Lib.hid hsb
    have HR6 := Lib.hid hr6
    generalize hff : fst 30 0 T.length = f at *
    generalize hf2 : T.length - f = f2 at *
    have hf2l : f2 ≤ 30 := by omega
    clear hs6 hsa6 hsb hr6 hown5 hown6 hsa hff hf2
    have hPk := peek_any b g 30 0 T 30 w6 HR6.out (by decide)
    have hck : cut 30 T.length = K := by
      rw [HTl.out]
      unfold cut
      rw [if_neg (by decide)]
      have : (30 : Int).toNat = 30 := rfl
      omega
    rw [hck] at hPk
    have HCK := Lib.hid hck
    clear hck
    go_wp2_with fail
    refine hPk.mono ?_
    rintro e w7 ⟨op, cp, rfl, hown7, hB7⟩
    have F7 := Frm.of_below (ok := fun _ => True) hB7 (fun q hq _ => hq)
    have hz7 := hB7.size
    have hs7 := HS6.out.kept F7 (fun _ _ _ => trivial)
    have hsa7 := HSA6.out.kept F7 (fun _ _ _ => trivial)
    have hsb7 := HSB6.out.kept F7 (fun _ _ _ => trivial)
    have hTt : (T.take K).length = K := by rw [List.length_take, HTl.out]; omega
    have hsp7 : Wr8 (fun q => w4.heap.size ≤ q) w7 op K := Wr8.of_owns hown7 hTt.symm (fun q hq _ => by omega)
    have hr7 := HR6.out.kept F7 trivial trivial
    have hb7 := hb6.trans (hB7.mono hb6.size)
    have hz7' : w2.heap.size ≤ w7.heap.size := by omega
    clear hown7 hPk hTt
    have F8 : Frm (fun _ => True) w7 (w7.alloc (.cells #[.slice oi B.length ci, .slice oa f ca, .slice ob f2 cb, .slice op K cp] 22)) := (Frm.refl _ _).alloc _
    have hL : (w7.alloc (.cells #[.slice oi B.length ci, .slice oa f ca, .slice ob f2 cb, .slice op K cp] 22)).heap[w7.heap.size]? = some (.cells #[.slice oi B.length ci, .slice oa f ca, .slice ob f2 cb, .slice op K cp] 22 (0, 0)) := World.alloc_heap_new w7 _
    have hlt0 : ∀ q, q < w7.heap.size → (w2.heap.size ≤ q) → (w2.heap.size ≤ q ∧ q < w7.heap.size) := fun q h1 h2 => ⟨h2, h1⟩
    have hF : Four (fun q => w2.heap.size ≤ q ∧ q < w7.heap.size) (w7.alloc (.cells #[.slice oi B.length ci, .slice oa f ca, .slice ob f2 cb, .slice op K cp] 22)) (w7.alloc (.cells #[.slice oi B.length ci, .slice oa f ca, .slice ob f2 cb, .slice op K cp] 22)) oi oa ob op B.length f f2 K :=
      ⟨Frm.refl _ _, ((hs7.mono (fun q h1 h2 => ⟨h2, h1⟩)).kept F8 (fun _ _ _ => trivial)), ((hsa7.mono (fun q h1 h2 => ⟨by omega, h1⟩)).kept F8 (fun _ _ _ => trivial)), ((hsb7.mono (fun q h1 h2 => ⟨by omega, h1⟩)).kept F8 (fun _ _ _ => trivial)), ((hsp7.mono (fun q h1 h2 => ⟨by omega, h1⟩)).kept F8 (fun _ _ _ => trivial))⟩
    have hr8 := hr7.kept F8 trivial trivial
    have hb8 := hb7.alloc hb7.size (.cells #[.slice oi B.length ci, .slice oa f ca, .slice ob f2 cb, .slice op K cp] 22)
    have HF8 := Lib.hid hF
    have HR8 := Lib.hid hr8
    have HL := Lib.hid hL
    clear hs7 hsa7 hsb7 hsp7 hr7 hF hr8 hL F8 F7 F6 F5 hlt0
    go_wp2_with fail
    generalize (w7.alloc (.cells #[.slice oi B.length ci, .slice oa f ca, .slice ob f2 cb, .slice op K cp] 22)) = w8 at *
    generalize w7.heap.size = Lb at *
    go_loopw [47] (fun i wr => ∃ k : Nat, i = .int .i64 k ∧ k ≤ 4 ∧ Four (fun q => w2.heap.size ≤ q ∧ q < Lb) w8 wr oi oa ob op B.length f f2 K) (fun i _ => 4 - (intOf i).toNat)
    case atStart => exact ⟨0, rfl, Nat.zero_le _, HF8.out⟩
    case round =>
      obtain ⟨k, rfl, hk, h4⟩ := hrel
      by_cases hlt : k < 4
      · have hLr := frm_block h4.frm HL.out (by omega)
        have hsel : ∃ o n c, wr.cell? ⟨Lb, k, none⟩ = some (.slice o n c) ∧ n ≤ 200 ∧ Wr8 (fun q => w2.heap.size ≤ q ∧ q < Lb) wr o n := by
          rcases (show k = 0 ∨ k = 1 ∨ k = 2 ∨ k = 3 by omega) with rfl | rfl | rfl | rfl
          · exact ⟨oi, B.length, ci, by simp [World.cell?, hLr], by omega, h4.s0⟩
          · exact ⟨oa, f, ca, by simp [World.cell?, hLr], by omega, h4.s1⟩
          · exact ⟨ob, f2, cb, by simp [World.cell?, hLr], by omega, h4.s2⟩
          · exact ⟨op, K, cp, by simp [World.cell?, hLr], by omega, h4.s3⟩
        obtain ⟨so, sn, sc, hcell, hsn, hsw⟩ := hsel
        have hdk : decide ((k : Int) < 4) = true := by simp; omega
        have H4 := Lib.hid h4
        have HSW := Lib.hid hsw
        clear h4 hsw hLr
        obtain ⟨wo, rfl⟩ : ∃ wo : World, wo = wr := ⟨_, rfl⟩
        go_wp2_with fail
        go_loopw [53] (fun i wr' => ∃ j : Nat, i = .int .i64 j ∧ j ≤ sn ∧ Four (fun q => w2.heap.size ≤ q ∧ q < Lb) w8 wr' oi oa ob op B.length f f2 K ∧ Wr8 (fun q => w2.heap.size ≤ q ∧ q < Lb) wr' so sn) (fun i _ => sn - (intOf i).toNat)
        case atStart => exact ⟨0, rfl, Nat.zero_le _, H4.out, HSW.out⟩
        case round =>
          obtain ⟨j, rfl, hj, h4j, hswj⟩ := hrel
          by_cases hlt2 : j < sn
          · obtain ⟨q, rfl, hq, hqs, hrow⟩ := hswj (by omega)
            obtain ⟨⟨x, hc⟩, hfz⟩ := hrow.cell hlt2
            have hset := fun y => h4j.set q j y hq
            have hset2 := fun y => hswj.set q j y
            have HSET := Lib.hid hset
            have HSET2 := Lib.hid hset2
            clear hset hset2 h4j hswj hrow
            go_wp2
            go_roundw
            case rel => exact ⟨j + 1, by go_num, by omega, HSET.out _, HSET2.out _⟩
            case measure => simp [intOf]; omega
          · go_wp2
            go_roundw
            case rel => exact ⟨k + 1, by go_num, by omega, h4j⟩
            case measure => simp [intOf]; omega
      · have hFr := h4.frm
        have hr9 := HR8.out.kept hFr (by omega) (by omega)
        have hb9 := below_frm hb8 hb8.size hFr (fun q hq => by have := hB2.size; omega)
        have hbt9 := HVT.out wr hb9
        have hRd := fun (W : World) (hr : Rng W b g 30 0 T) => read_any b g 30 0 T 30 W hr (by decide)
        rw [HCK.out, List.take_of_length_le (show T.length ≤ K by rw [HTl.out]; exact Nat.le_refl _)] at hRd
        have HRd := Lib.hid hRd
        have HR9 := Lib.hid hr9
        have HBT9 := Lib.hid hbt9
        clear hr9 hbt9 hRd h4
        have hk0 : (0 : Int) ≤ (K : Int) := by omega
        have hk1 : (K : Int) ≤ (cap : Int) := by omega
        by_cases h30 : B.length ≤ 30
        · have hq3 : ((K : Int) == if (30 : Int) < (B.length : Int) then (30 : Int) else (B.length : Int)) = true := by rw [if_neg (by omega)]; exact beq_iff_eq.2 (by omega)
          go_wp2_with fail
          go_region_held3 (fun _ => True) (trivial)
            (first
              | (go_at_call 13; (with_reducible refine (HRd.out _ (HR9.out.kept (Frm.refl (fun _ => True) _).drew trivial trivial)).mono ?_); rintro e w10 ⟨o10, c10, rfl, hown10, hr10, hf10⟩; have FA : Frm (fun q => q ≠ b) wr w10 := hf10.undrew; have hO10 := Lib.hid hown10; clear hown10 hr10 hf10)
              | (go_at_call 14; (with_reducible refine (same_any (ok := fun _ => True) (ok' := fun q => q < w.heap.size) (.slice o10 K c10) (.slice o K cap) T _ ?_ ?_ (by omega)).mono ?_); exact Bytes.of_owns hO10.out HTl.out.symm (fun _ _ _ => trivial); exact HBT9.out.kept FA (fun q _ hq => by omega); rintro e w11 ⟨rfl, hB11⟩))
          have hbF := (below_frm hb9 hb9.size FA (fun q hq => by omega))
          have hbG := hbF.trans (hB11.mono hbF.size)
          go_wp2
          go_ret
          exact ⟨rfl, hbG⟩
        · have hq3 : ((K : Int) == if (30 : Int) < (B.length : Int) then (30 : Int) else (B.length : Int)) = true := by rw [if_pos (by omega)]; exact beq_iff_eq.2 (by omega)
          go_wp2_with fail
          go_region_held3 (fun _ => True) (trivial)
            (first
              | (go_at_call 13; (with_reducible refine (HRd.out _ (HR9.out.kept (Frm.refl (fun _ => True) _).drew trivial trivial)).mono ?_); rintro e w10 ⟨o10, c10, rfl, hown10, hr10, hf10⟩; have FA : Frm (fun q => q ≠ b) wr w10 := hf10.undrew; have hO10 := Lib.hid hown10; clear hown10 hr10 hf10)
              | (go_at_call 14; (with_reducible refine (same_any (ok := fun _ => True) (ok' := fun q => q < w.heap.size) (.slice o10 K c10) (.slice o K cap) T _ ?_ ?_ (by omega)).mono ?_); exact Bytes.of_owns hO10.out HTl.out.symm (fun _ _ _ => trivial); exact HBT9.out.kept FA (fun q _ hq => by omega); rintro e w11 ⟨rfl, hB11⟩))
          have hbF := (below_frm hb9 hb9.size FA (fun q hq => by omega))
          have hbG := hbF.trans (hB11.mono hbF.size)
          go_wp2
          go_ret
          exact ⟨rfl, hbG⟩
  · go_wp2_with fail
    go_ret
    exact ⟨rfl, hB1⟩
end Go.Proofs.Ytmgkomobamjneaa
