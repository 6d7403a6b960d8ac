/-
  The walk of RingActs.
-/
import Derived.Test.YtmgkomobamjneaaI
import Derived.Test.YtmgkomobamjneaaJ
import Derived.Test.YtmgkomobamjneaaTold
import Derived.Test.YtmgkomobamjneaaWalked
import Derived.Test.YtmgkomobamjneaaOps
namespace Go.Proofs.Ytmgkomobamjneaa
open Go.RowKit

theorem set3 {w W : World} {X : Nat} {v0 v1 v2 u0 u1 u2 : Value} {t : TypeId} (h : w.heap[X]? = some (.cells #[v0, v1, v2] t (0, 0)))
    (hW : ((w.setCell ⟨X, 0, none⟩ u0).setCell ⟨X, 1, none⟩ u1).setCell ⟨X, 2, none⟩ u2 = W) :
    W.heap[X]? = some (.cells #[u0, u1, u2] t (0, 0)) ∧ Frm (fun q => q ≠ X) w W := by
  subst hW
  exact ⟨row_setCell' (row_setCell' (row_setCell' h)), (((Frm.refl _ _).setCell _ _ _ (fun _ h => h rfl)).setCell _ _ _ (fun _ h => h rfl)).setCell _ _ _ (fun _ h => h rfl)⟩

/-- The ring and the document's ring, alike. -/
def Pr (w : World) (b g X N h : Nat) (l : List UInt8) : Prop :=
  Rng w b g N h l ∧ ∃ o c, w.heap[X]? = some (.cells #[.int .i64 N, .int .i64 h, .slice o l.length c] 47 (0, 0)) ∧ Bytes (fun q => q ≠ b ∧ q ≠ g ∧ q ≠ X) w (.slice o l.length c) l
theorem Pr.kept {w w' : World} {b g X N h : Nat} {l : List UInt8} (hp : Pr w b g X N h l) (hf : Frm (fun _ => True) w w') : Pr w' b g X N h l := by
  obtain ⟨h1, o, c, h2, h3⟩ := hp
  exact ⟨h1.kept hf trivial trivial, o, c, frm_block hf h2 trivial, h3.kept hf (fun _ _ _ => trivial)⟩

set_option maxRecDepth 100000 in
set_option maxHeartbeats 16000000 in
theorem ringActs_any (n : Int) (v : Value) (L : List (Int × List UInt8 × Int)) (w : World) (hO : Opsv (fun _ => True) w v L) (hn0 : -9223372036854775808 ≤ n) (hn1 : n ≤ 9223372036854775807)
    (hl : ∀ i, i < L.length → (L.getD i (0, [], 0)).2.1.length ≤ 140737488351232 ∧ (0 ≤ (L.getD i (0, [], 0)).1 ∧ (L.getD i (0, [], 0)).1 ≤ 255) ∧ (L.getD i (0, [], 0)).2.2 ≤ 9223372036854775807) :
    Calls Try.prog 7 #[.int .i64 n, v] w fun e w' => e = .returned (.bool true) ∧ Below w.heap.size w w' := by
  have hO' : Opsv (fun q => q < w.heap.size) w v L := by
    obtain ⟨o, cap, h1, h2, h3, h4⟩ := hO
    refine ⟨o, cap, h1, h2, h3, fun hne => ?_⟩
    obtain ⟨b, off, e, _, h5, h6⟩ := h4 hne
    refine ⟨b, off, e, h5, h5, fun i hi => ?_⟩
    obtain ⟨q1, vi, q2, q3, q4⟩ := h6 i hi
    exact ⟨q1, vi, q2, q3.mono (fun q hq _ => hq), q4⟩
  have hLg := fun W (hb : Below w.heap.size w W) => long_any v L w W hO' hb (fun i hi => (hl i hi).1)
  obtain ⟨o, cap, rfl, hc1, hc2, h4⟩ := hO'
  unfold maxLen at hc2
  have H4 := Lib.hid h4
  have HL := Lib.hid hl
  have HLG := Lib.hid hLg
  clear hO h4 hl hLg
  go_enter Try.func7, Try.ntmps7
  go_wp2_with fail
  refine (wakes_any _).mono ?_
  rintro e w1 ⟨rfl, hB1⟩
  go_wp2_with fail
  refine (HLG.out w1 hB1).mono ?_
  rintro e w2 ⟨⟨Bl, rfl, hBl⟩, hB2⟩
  have hz2 := hB2.size
  rcases Bl with _ | _
  · have hL20 := hBl rfl
    by_cases h500 : 500 < n ∧ n ≤ 65536
    · obtain ⟨h5a, h5b⟩ := h500
      go_wp2
      go_ret
      exact ⟨rfl, hB2⟩
    · by_cases hbad : n < 1 ∨ 65536 < n
      · have hNo := new_no n w2 hbad
        have hd5 : (500 < n ∧ 65536 < n) ∨ n < 1 := by omega
        rcases hd5 with ⟨h5, h6⟩ | h5
        · go_wp2_with fail
          refine hNo.mono ?_
          rintro e w3 ⟨rfl, rfl⟩
          go_wp2
          go_ret
          exact ⟨rfl, hB2⟩
        · have h7 : ¬ 500 < n := by omega
          go_wp2_with fail
          refine hNo.mono ?_
          rintro e w3 ⟨rfl, rfl⟩
          go_wp2
          go_ret
          exact ⟨rfl, hB2⟩
      · obtain ⟨N, rfl⟩ := Int.eq_ofNat_of_zero_le (show 0 ≤ n by omega)
        have hN1 : 1 ≤ N := by omega
        have hN2 : N ≤ 500 := by omega
        clear h500 hbad
        go_wp2_with fail
        refine (new_ok N w2 hN1 (by omega)).mono ?_
        rintro e w3 ⟨b, g, rfl, hb, hg, hr3, hB3⟩
        have hB13 := hB2.trans (hB3.mono hz2)
        have hz3 := hB13.size
        have hbd3 := hr3.bd
        have F4 : Frm (fun _ => True) w3 (w3.alloc (.cells #[.int .i64 N, .int .i64 0, .slice none 0 0] 47)) := (Frm.refl _ _).alloc _
        have hx4 : (w3.alloc (.cells #[.int .i64 N, .int .i64 0, .slice none 0 0] 47)).heap[w3.heap.size]? = some (.cells #[.int .i64 N, .int .i64 0, .slice none 0 0] 47 (0, 0)) := World.alloc_heap_new w3 _
        have hP4 : Pr (w3.alloc (.cells #[.int .i64 N, .int .i64 0, .slice none 0 0] 47)) b g w3.heap.size N 0 [] := ⟨hr3.kept F4 trivial trivial, none, 0, hx4, .inl ⟨rfl, rfl⟩⟩
        have hB4 := hB13.alloc hz3 (.cells #[.int .i64 N, .int .i64 0, .slice none 0 0] 47)
        have hz4 : w3.heap.size < (w3.alloc (.cells #[.int .i64 N, .int .i64 0, .slice none 0 0] 47)).heap.size := by simp
        have hT4 := told_any (ok := fun _ => True) b g N 0 none 0 [] _ (hr3.kept F4 trivial trivial) (.inl ⟨rfl, rfl⟩)
        have HP4 := Lib.hid hP4
        have HT4 := Lib.hid hT4
        obtain ⟨p0, p1, p2, _⟩ := row3 hx4
        clear hr3 hP4 hx4 F4 hT4
        go_wp2_with fail
        generalize w3.alloc (.cells #[.int .i64 N, .int .i64 0, .slice none 0 0] 47) = w4 at *
        generalize w3.heap.size = X at *
        refine HT4.out.mono ?_
        rintro e w5 ⟨rfl, hB5⟩
        have hP5 := HP4.out.kept (Frm.of_below (ok := fun _ => True) hB5 (fun q hq _ => hq))
        have hb5 := hB4.trans (hB5.mono hB4.size)
        have hz5 := hB5.size
        have HP5 := Lib.hid hP5
        clear hP5 p0 p1 p2
        go_wp2_with fail
        go_loopw [63] (fun i wr => ∃ (k h : Nat) (l : List UInt8), i = .int .i64 k ∧ k ≤ L.length ∧ Pr wr b g X N h l ∧ Below w.heap.size w wr ∧ w5.heap.size ≤ wr.heap.size) (fun i _ => L.length - (intOf i).toNat)
        case atStart => exact ⟨0, 0, [], rfl, Nat.zero_le _, HP5.out, hb5, Nat.le_refl _⟩
        case round =>
          obtain ⟨k, h, l, rfl, hk, hP, hbr, hzw⟩ := hrel
          by_cases hlt : k < L.length
          · have hl0 : L ≠ [] := by intro e; rw [e] at hlt; simp at hlt
            obtain ⟨bo, off, rfl, _, hbs, hc⟩ := H4.out hl0
            obtain ⟨hk0, vi, hk1, hby, hk2⟩ := hc k hlt
            have c0 := (hbr.cell (p := ⟨bo, off + k * 3, none⟩) hbs).trans hk0
            have c1 := (hbr.cell (p := ⟨bo, off + k * 3 + 1, none⟩) hbs).trans hk1
            have c2 := (hbr.cell (p := ⟨bo, off + k * 3 + 2, none⟩) hbs).trans hk2
            have hbyw := hby.kept (Frm.of_below (ok := fun q => q < w.heap.size) hbr (fun q _ hq => hq)) (fun _ _ hq => hq)
            obtain ⟨ov, cv, rfl, q1, q2, _⟩ := hbyw.form
            unfold maxLen at q2
            obtain ⟨hp1, ⟨hu1, hu2⟩, hp2⟩ := HL.out k hlt
            generalize (L.getD k (0, [], 0)).2.1 = m at *
            generalize (L.getD k (0, [], 0)).1 = kd at *
            generalize (L.getD k (0, [], 0)).2.2 = nn at *
            obtain ⟨hr, ox, cx, hx, hbx⟩ := hP
            have hbd := hr.bd
            have hXl := lt_of_block hx
            -- the call's own copy
            have F1 : Frm (fun _ => True) wr (wr.alloc (.cells #[.int .u8 kd, .slice ov m.length cv, .int .i64 nn] 50)) := (Frm.refl _ _).alloc _
            have he1 : (wr.alloc (.cells #[.int .u8 kd, .slice ov m.length cv, .int .i64 nn] 50)).heap[wr.heap.size]? = some (.cells #[.int .u8 kd, .slice ov m.length cv, .int .i64 nn] 50 (0, 0)) := World.alloc_heap_new wr _
            have hx1 := frm_block F1 hx trivial
            have hr1 := hr.kept F1 trivial trivial
            have hbx1 := hbx.kept F1 (fun _ _ _ => trivial)
            have hby1 := hbyw.kept F1 (fun _ _ _ => trivial)
            have hb1 := below_frm hbr hbr.size F1 (fun _ _ => trivial)
            have hs1 : (wr.alloc (.cells #[.int .u8 kd, .slice ov m.length cv, .int .i64 nn] 50)).heap.size = wr.heap.size + 1 := World.size_alloc _ _
            obtain ⟨x0, x1, x2, _⟩ := row3 hx
            clear hc hk0 hk1 hk2 hby hbyw hr hbx hx
            have HE1 := Lib.hid he1
            have HX1 := Lib.hid hx1
            have HR1 := Lib.hid hr1
            have HBX1 := Lib.hid hbx1
            have HBY1 := Lib.hid hby1
            have HB1 := Lib.hid hb1
            have HS1 := Lib.hid hs1
            have HF1 := Lib.hid F1
            have hmod : kd % 5 = 0 ∨ kd % 5 = 1 ∨ kd % 5 = 2 ∨ kd % 5 = 3 ∨ kd % 5 = 4 := by omega
            clear he1 hx1 hr1 hbx1 hby1 hb1 hs1 F1
            rcases hmod with hkd | hkd | hkd | hkd | hkd
            · go_wp2_with fail
              generalize wr.alloc (.cells #[.int .u8 kd, .slice ov m.length cv, .int .i64 nn] 50) = W1 at *
              have hsz1 : W1.heap.size = wr.heap.size + 1 := HS1.out
              refine (refWrite_any (ok := fun q => q ≠ b ∧ q ≠ g ∧ q ≠ X) (ok' := fun q => q < w.heap.size) N h ox cx l ov cv m W1 HBX1.out HBY1.out (by omega) (by omega) (by omega)).mono ?_
              rintro e w6 ⟨o6, c6, rfl, hb6, hB6⟩
              have F6 := Frm.of_below (ok := fun _ => True) hB6 (fun q hq _ => hq)
              have hz6 := hB6.size
              have hlt6 : (l ++ m.take (room N l.length m.length)).length = l.length + room N l.length m.length := by rw [List.length_append, List.length_take]; unfold room; omega
              have F7 : Frm (fun _ => True) w6 (w6.alloc (.cells #[.int .i64 N, .int .i64 h, .slice o6 (l.length + room N l.length m.length) c6] 47)) := (Frm.refl _ _).alloc _
              have hy7 : (w6.alloc (.cells #[.int .i64 N, .int .i64 h, .slice o6 (l.length + room N l.length m.length) c6] 47)).heap[w6.heap.size]? = some (.cells #[.int .i64 N, .int .i64 h, .slice o6 (l.length + room N l.length m.length) c6] 47 (0, 0)) := World.alloc_heap_new w6 _
              have hs7 : (w6.alloc (.cells #[.int .i64 N, .int .i64 h, .slice o6 (l.length + room N l.length m.length) c6] 47)).heap.size = w6.heap.size + 1 := World.size_alloc _ _
              have F67 := F6.trans F7
              have hr7 := HR1.out.kept F67 trivial trivial
              have hby7 := HBY1.out.kept F67 (fun _ _ _ => trivial)
              have hb7 := hb6.kept F7 (fun _ _ _ => trivial)
              have he7 := frm_block F67 HE1.out trivial
              have hx7 := frm_block F67 HX1.out trivial
              obtain ⟨e0, e1, e2, _⟩ := row3 he7
              have HHY7 := Lib.hid hy7
              have HX7 := Lib.hid hx7
              have HB7 := Lib.hid hb7
              have HF67 := Lib.hid F67
              have HLT6 := Lib.hid hlt6
              have HS7 := Lib.hid hs7
              clear hb6 F6 F7 F67 he7 hx7 hy7 hb7 hlt6 hs7
              have hWr := write_any b g N h l (.slice ov m.length cv) m _ hr7 hby7 (fun q hq => by omega) (by omega)
              clear hr7 hby7
              generalize room N l.length m.length = K at *
              generalize m.take K = mk at *
              go_wp2_with fail
              generalize w6.alloc (.cells #[.int .i64 N, .int .i64 h, .slice o6 (l.length + K) c6] 47) = w7 at *
              have hsz7 : w7.heap.size = w6.heap.size + 1 := HS7.out
              refine hWr.mono ?_
              rintro e w8 ⟨rfl, hr8, hf8⟩
              have hy8 := frm_block hf8 HHY7.out ⟨by omega, by omega⟩
              have hx8 := frm_block hf8 HX7.out ⟨by omega, by omega⟩
              have hb8 := HB7.out.kept hf8 (fun q _ hq => ⟨by omega, by omega⟩)
              obtain ⟨d0, d1, d2, _⟩ := row3 hy8
              obtain ⟨f0, f1, f2, f3, f4, f5⟩ := row3 hx8
              have hz8 := hf8.size
              have HX8 := Lib.hid hx8
              have HR8 := Lib.hid hr8
              have HB8 := Lib.hid hb8
              clear hy8 hx8 hr8 hb8 hWr e0 e1 e2
              go_wp2_with fail
              generalize hW : World.setCell (World.setCell (World.setCell w8 _ _) _ _) _ _ = w9
              obtain ⟨hx9, F9⟩ := set3 HX8.out hW
              have hR9 := HR8.out.kept F9 (by omega) (by omega)
              have hbx9 : Bytes (fun q => q ≠ b ∧ q ≠ g ∧ q ≠ X) w9 (.slice o6 (l ++ mk).length c6) (l ++ mk) := by rw [HLT6.out]; exact (HB8.out.kept F9 (fun q _ hq => by omega)).mono (fun q _ hq => ⟨by omega, by omega, by omega⟩)
              have hP9 : Pr w9 b g X N h (l ++ mk) := ⟨hR9, o6, c6, by rw [HLT6.out]; exact hx9, hbx9⟩
              have hT9 := told_any (ok := fun q => q ≠ b ∧ q ≠ g ∧ q ≠ X) b g N h o6 c6 (l ++ mk) w9 hR9 hbx9
              rw [HLT6.out] at hT9
              have hF19 : Frm (fun q => q ≠ b ∧ q ≠ g ∧ q ≠ X) W1 w9 := ((HF67.out.mono (fun _ _ _ => trivial)).trans (hf8.mono (fun _ _ h => ⟨h.1, h.2.1⟩))).trans (F9.mono (fun _ _ h => h.2.2))
              have hb9 := below_frm HB1.out HB1.out.size hF19 (fun q hq => ⟨by omega, by omega, by omega⟩)
              have hz9' := hF19.size
              clear hW hx9 F9 d0 d1 d2 f0 f1 f2 f3 f4 f5 hF19
              have HP9 := Lib.hid hP9
              have HT9 := Lib.hid hT9
              have hz9 := hb9.size
              have HZ9 := Lib.hid hz9'
              clear hP9 hT9 hR9 hbx9
              refine HT9.out.mono ?_
              rintro e w10 ⟨rfl, hB10⟩
              have hP10 := HP9.out.kept (Frm.of_below (ok := fun _ => True) hB10 (fun q hq _ => hq))
              have hb10 := hb9.trans (hB10.mono hz9)
              have hz10 := hB10.size
              have HP10 := Lib.hid hP10
              clear hP10
              go_wp2_with fail
              go_roundw
              case rel => exact ⟨k + 1, _, _, by go_num, by omega, HP10.out, hb10, by have := HZ9.out; omega⟩
              case measure => simp [intOf]; omega
            · go_wp2_with fail
              generalize wr.alloc (.cells #[.int .u8 kd, .slice ov m.length cv, .int .i64 nn] 50) = W1 at *
              have hsz1 : W1.heap.size = wr.heap.size + 1 := HS1.out
              refine (refWrite_any (ok := fun q => q ≠ b ∧ q ≠ g ∧ q ≠ X) (ok' := fun q => q < w.heap.size) N h ox cx l ov cv m W1 HBX1.out HBY1.out (by omega) (by omega) (by omega)).mono ?_
              rintro e w6 ⟨o6, c6, rfl, hb6, hB6⟩
              have F6 := Frm.of_below (ok := fun _ => True) hB6 (fun q hq _ => hq)
              have hz6 := hB6.size
              have hlt6 : (l ++ m.take (room N l.length m.length)).length = l.length + room N l.length m.length := by rw [List.length_append, List.length_take]; unfold room; omega
              have F7 : Frm (fun _ => True) w6 (w6.alloc (.cells #[.int .i64 N, .int .i64 h, .slice o6 (l.length + room N l.length m.length) c6] 47)) := (Frm.refl _ _).alloc _
              have hy7 : (w6.alloc (.cells #[.int .i64 N, .int .i64 h, .slice o6 (l.length + room N l.length m.length) c6] 47)).heap[w6.heap.size]? = some (.cells #[.int .i64 N, .int .i64 h, .slice o6 (l.length + room N l.length m.length) c6] 47 (0, 0)) := World.alloc_heap_new w6 _
              have hs7 : (w6.alloc (.cells #[.int .i64 N, .int .i64 h, .slice o6 (l.length + room N l.length m.length) c6] 47)).heap.size = w6.heap.size + 1 := World.size_alloc _ _
              have F67 := F6.trans F7
              have hr7 := HR1.out.kept F67 trivial trivial
              have hby7 := HBY1.out.kept F67 (fun _ _ _ => trivial)
              have hb7 := hb6.kept F7 (fun _ _ _ => trivial)
              have he7 := frm_block F67 HE1.out trivial
              have hx7 := frm_block F67 HX1.out trivial
              obtain ⟨e0, e1, e2, _⟩ := row3 he7
              have HHY7 := Lib.hid hy7
              have HX7 := Lib.hid hx7
              have HB7 := Lib.hid hb7
              have HF67 := Lib.hid F67
              have HLT6 := Lib.hid hlt6
              have HS7 := Lib.hid hs7
              clear hb6 F6 F7 F67 he7 hx7 hy7 hb7 hlt6 hs7
              have hWr := write_any b g N h l (.slice ov m.length cv) m _ hr7 hby7 (fun q hq => by omega) (by omega)
              clear hr7 hby7
              generalize room N l.length m.length = K at *
              generalize m.take K = mk at *
              go_wp2_with fail
              generalize w6.alloc (.cells #[.int .i64 N, .int .i64 h, .slice o6 (l.length + K) c6] 47) = w7 at *
              have hsz7 : w7.heap.size = w6.heap.size + 1 := HS7.out
              refine hWr.mono ?_
              rintro e w8 ⟨rfl, hr8, hf8⟩
              have hy8 := frm_block hf8 HHY7.out ⟨by omega, by omega⟩
              have hx8 := frm_block hf8 HX7.out ⟨by omega, by omega⟩
              have hb8 := HB7.out.kept hf8 (fun q _ hq => ⟨by omega, by omega⟩)
              obtain ⟨d0, d1, d2, _⟩ := row3 hy8
              obtain ⟨f0, f1, f2, f3, f4, f5⟩ := row3 hx8
              have hz8 := hf8.size
              have HX8 := Lib.hid hx8
              have HR8 := Lib.hid hr8
              have HB8 := Lib.hid hb8
              clear hy8 hx8 hr8 hb8 hWr e0 e1 e2
              go_wp2_with fail
              generalize hW : World.setCell (World.setCell (World.setCell w8 _ _) _ _) _ _ = w9
              obtain ⟨hx9, F9⟩ := set3 HX8.out hW
              have hR9 := HR8.out.kept F9 (by omega) (by omega)
              have hbx9 : Bytes (fun q => q ≠ b ∧ q ≠ g ∧ q ≠ X) w9 (.slice o6 (l ++ mk).length c6) (l ++ mk) := by rw [HLT6.out]; exact (HB8.out.kept F9 (fun q _ hq => by omega)).mono (fun q _ hq => ⟨by omega, by omega, by omega⟩)
              have hP9 : Pr w9 b g X N h (l ++ mk) := ⟨hR9, o6, c6, by rw [HLT6.out]; exact hx9, hbx9⟩
              have hT9 := told_any (ok := fun q => q ≠ b ∧ q ≠ g ∧ q ≠ X) b g N h o6 c6 (l ++ mk) w9 hR9 hbx9
              rw [HLT6.out] at hT9
              have hF19 : Frm (fun q => q ≠ b ∧ q ≠ g ∧ q ≠ X) W1 w9 := ((HF67.out.mono (fun _ _ _ => trivial)).trans (hf8.mono (fun _ _ h => ⟨h.1, h.2.1⟩))).trans (F9.mono (fun _ _ h => h.2.2))
              have hb9 := below_frm HB1.out HB1.out.size hF19 (fun q hq => ⟨by omega, by omega, by omega⟩)
              have hz9' := hF19.size
              clear hW hx9 F9 d0 d1 d2 f0 f1 f2 f3 f4 f5 hF19
              have HP9 := Lib.hid hP9
              have HT9 := Lib.hid hT9
              have hz9 := hb9.size
              have HZ9 := Lib.hid hz9'
              clear hP9 hT9 hR9 hbx9
              refine HT9.out.mono ?_
              rintro e w10 ⟨rfl, hB10⟩
              have hP10 := HP9.out.kept (Frm.of_below (ok := fun _ => True) hB10 (fun q hq _ => hq))
              have hb10 := hb9.trans (hB10.mono hz9)
              have hz10 := hB10.size
              have HP10 := Lib.hid hP10
              clear hP10
              go_wp2_with fail
              go_roundw
              case rel => exact ⟨k + 1, _, _, by go_num, by omega, HP10.out, hb10, by have := HZ9.out; omega⟩
              case measure => simp [intOf]; omega
            · go_wp2_with fail
              generalize wr.alloc (.cells #[.int .u8 kd, .slice ov m.length cv, .int .i64 nn] 50) = W1 at *
              have hsz1 : W1.heap.size = wr.heap.size + 1 := HS1.out
              refine (refRead_any (ok := fun q => q ≠ b ∧ q ≠ g ∧ q ≠ X) N h ox cx l nn W1 HBX1.out (by omega) (by omega) (by omega) (by omega)).mono ?_
              rintro e w6 ⟨o6, c6, ob, cb, rfl, hb6, ht6, hB6⟩
              have hKl := cut_le nn l.length
              have F6 := Frm.of_below (ok := fun _ => True) hB6 (fun q hq _ => hq)
              have hz6 := hB6.size
              have hlt6 : (l.drop (cut nn l.length)).length = l.length - cut nn l.length := List.length_drop
              have htt6 : (l.take (cut nn l.length)).length = cut nn l.length := by rw [List.length_take]; omega
              have F7 : Frm (fun _ => True) w6 (w6.alloc (.cells #[.int .i64 N, .int .i64 (ix N (h + cut nn l.length) : Nat), .slice o6 (l.length - cut nn l.length) c6] 47)) := (Frm.refl _ _).alloc _
              have hy7 : (w6.alloc (.cells #[.int .i64 N, .int .i64 (ix N (h + cut nn l.length) : Nat), .slice o6 (l.length - cut nn l.length) c6] 47)).heap[w6.heap.size]? = some (.cells #[.int .i64 N, .int .i64 (ix N (h + cut nn l.length) : Nat), .slice o6 (l.length - cut nn l.length) c6] 47 (0, 0)) := World.alloc_heap_new w6 _
              have hs7 : (w6.alloc (.cells #[.int .i64 N, .int .i64 (ix N (h + cut nn l.length) : Nat), .slice o6 (l.length - cut nn l.length) c6] 47)).heap.size = w6.heap.size + 1 := World.size_alloc _ _
              have F67 := F6.trans F7
              have hr7 := HR1.out.kept F67 trivial trivial
              have hb7 := hb6.kept F7 (fun _ _ _ => trivial)
              have ht7 := ht6.kept F7 (fun _ _ _ => trivial)
              have he7 := frm_block F67 HE1.out trivial
              have hx7 := frm_block F67 HX1.out trivial
              have hbx7 := HBX1.out.kept F67 (fun _ _ _ => trivial)
              obtain ⟨e0, e1, e2, _⟩ := row3 he7
              have HHY7 := Lib.hid hy7
              have HX7 := Lib.hid hx7
              have HB7 := Lib.hid hb7
              have HTT7 := Lib.hid ht7
              have HBX7 := Lib.hid hbx7
              have HF67 := Lib.hid F67
              have HLT6 := Lib.hid hlt6
              have HTT6 := Lib.hid htt6
              have HS7 := Lib.hid hs7
              clear hb6 ht6 F6 F7 F67 he7 hx7 hy7 hb7 ht7 hbx7 hlt6 htt6 hs7
              have hRd := read_any b g N h l nn _ hr7 (by omega)
              clear hr7
              generalize hKK : cut nn l.length = K at *
              generalize l.take K = tk at *
              generalize hdk : l.drop K = dk at *
              generalize hhd : ix N (h + K) = hd at *
              have hK2 : K ≤ l.length := hKl
              go_wp2_with fail
              generalize w6.alloc (.cells #[.int .i64 N, .int .i64 hd, .slice o6 (l.length - K) c6] 47) = w7 at *
              have hsz7 : w7.heap.size = w6.heap.size + 1 := HS7.out
              clear hKK hdk hhd
              refine hRd.mono ?_
              rintro e w8 ⟨o8, c8, rfl, hown8, hr8, hf8⟩
              have ht8 := HTT7.out.kept hf8 (fun q _ hq => hq.1)
              have hy8 := frm_block hf8 HHY7.out (by omega)
              have hx8 := frm_block hf8 HX7.out (by omega)
              have hb8 := HB7.out.kept hf8 (fun q _ hq => hq.1)
              have hz8 := hf8.size
              have hSm := same_any (ok := fun _ => True) (ok' := fun q => q ≠ b ∧ q ≠ g ∧ q ≠ X) (.slice o8 K c8) (.slice ob K cb) tk w8 (Bytes.of_owns hown8 HTT6.out.symm (fun _ _ _ => trivial)) ht8 (by rw [HTT6.out]; omega)
              have HX8 := Lib.hid hx8
              have HHY8 := Lib.hid hy8
              have HR8 := Lib.hid hr8
              have HB8 := Lib.hid hb8
              clear hy8 hx8 hr8 hb8 ht8 hown8 hRd e0 e1 e2
              go_wp2_with fail
              refine hSm.mono ?_
              rintro e w8b ⟨rfl, hB8⟩
              have F8 := Frm.of_below (ok := fun _ => True) hB8 (fun q hq _ => hq)
              have hy8 := frm_block F8 HHY8.out trivial
              have hx8 := frm_block F8 HX8.out trivial
              have hr8 := HR8.out.kept F8 trivial trivial
              have hb8 := HB8.out.kept F8 (fun _ _ _ => trivial)
              have hf8b : Frm (fun q => q ≠ b) w7 w8b := hf8.trans (F8.mono (fun _ _ _ => trivial))
              obtain ⟨d0, d1, d2, _⟩ := row3 hy8
              obtain ⟨f0, f1, f2, f3, f4, f5⟩ := row3 hx8
              have HX8b := Lib.hid hx8
              have HR8b := Lib.hid hr8
              have HB8b := Lib.hid hb8
              clear hy8 hx8 hr8 hb8 hSm F8
              go_wp2_with fail
              generalize hW : World.setCell (World.setCell (World.setCell w8b _ _) _ _) _ _ = w9
              obtain ⟨hx9, F9⟩ := set3 HX8b.out hW
              have hR9 := HR8b.out.kept F9 (by omega) (by omega)
              have hbx9 : Bytes (fun q => q ≠ b ∧ q ≠ g ∧ q ≠ X) w9 (.slice o6 (dk).length c6) (dk) := by rw [HLT6.out]; exact HB8b.out.kept F9 (fun q _ hq => hq.2.2)
              have hP9 : Pr w9 b g X N hd (dk) := ⟨hR9, o6, c6, by rw [HLT6.out]; exact hx9, hbx9⟩
              have hT9 := told_any (ok := fun q => q ≠ b ∧ q ≠ g ∧ q ≠ X) b g N hd o6 c6 (dk) w9 hR9 hbx9
              rw [HLT6.out] at hT9
              have hF19 : Frm (fun q => q ≠ b ∧ q ≠ g ∧ q ≠ X) W1 w9 := ((HF67.out.mono (fun _ _ _ => trivial)).trans (hf8b.mono (fun _ _ h => h.1))).trans (F9.mono (fun _ _ h => h.2.2))
              have hb9 := below_frm HB1.out HB1.out.size hF19 (fun q hq => ⟨by omega, by omega, by omega⟩)
              have hz9' := hF19.size
              clear hW hx9 F9 d0 d1 d2 f0 f1 f2 f3 f4 f5 hF19
              have HP9 := Lib.hid hP9
              have HT9 := Lib.hid hT9
              have hz9 := hb9.size
              have HZ9 := Lib.hid hz9'
              clear hP9 hT9 hR9 hbx9
              refine HT9.out.mono ?_
              rintro e w10 ⟨rfl, hB10⟩
              have hP10 := HP9.out.kept (Frm.of_below (ok := fun _ => True) hB10 (fun q hq _ => hq))
              have hb10 := hb9.trans (hB10.mono hz9)
              have hz10 := hB10.size
              have HP10 := Lib.hid hP10
              clear hP10
              go_wp2_with fail
              go_roundw
              case rel => exact ⟨k + 1, _, _, by go_num, by omega, HP10.out, hb10, by have := HZ9.out; omega⟩
              case measure => simp [intOf]; omega
            · go_wp2_with fail
              generalize wr.alloc (.cells #[.int .u8 kd, .slice ov m.length cv, .int .i64 nn] 50) = W1 at *
              have hsz1 : W1.heap.size = wr.heap.size + 1 := HS1.out
              refine (refRead_any (ok := fun q => q ≠ b ∧ q ≠ g ∧ q ≠ X) N h ox cx l nn W1 HBX1.out (by omega) (by omega) (by omega) (by omega)).mono ?_
              rintro e w6 ⟨o6, c6, ob, cb, rfl, hb6, ht6, hB6⟩
              have hKl := cut_le nn l.length
              have F6 := Frm.of_below (ok := fun _ => True) hB6 (fun q hq _ => hq)
              have hz6 := hB6.size
              have hlt6 : (l.drop (cut nn l.length)).length = l.length - cut nn l.length := List.length_drop
              have htt6 : (l.take (cut nn l.length)).length = cut nn l.length := by rw [List.length_take]; omega
              have F7 : Frm (fun _ => True) w6 (w6.alloc (.cells #[.int .i64 N, .int .i64 (ix N (h + cut nn l.length) : Nat), .slice o6 (l.length - cut nn l.length) c6] 47)) := (Frm.refl _ _).alloc _
              have hy7 : (w6.alloc (.cells #[.int .i64 N, .int .i64 (ix N (h + cut nn l.length) : Nat), .slice o6 (l.length - cut nn l.length) c6] 47)).heap[w6.heap.size]? = some (.cells #[.int .i64 N, .int .i64 (ix N (h + cut nn l.length) : Nat), .slice o6 (l.length - cut nn l.length) c6] 47 (0, 0)) := World.alloc_heap_new w6 _
              have hs7 : (w6.alloc (.cells #[.int .i64 N, .int .i64 (ix N (h + cut nn l.length) : Nat), .slice o6 (l.length - cut nn l.length) c6] 47)).heap.size = w6.heap.size + 1 := World.size_alloc _ _
              have F67 := F6.trans F7
              have hr7 := HR1.out.kept F67 trivial trivial
              have hb7 := hb6.kept F7 (fun _ _ _ => trivial)
              have ht7 := ht6.kept F7 (fun _ _ _ => trivial)
              have he7 := frm_block F67 HE1.out trivial
              have hx7 := frm_block F67 HX1.out trivial
              have hbx7 := HBX1.out.kept F67 (fun _ _ _ => trivial)
              obtain ⟨e0, e1, e2, _⟩ := row3 he7
              have HHY7 := Lib.hid hy7
              have HX7 := Lib.hid hx7
              have HB7 := Lib.hid hb7
              have HTT7 := Lib.hid ht7
              have HBX7 := Lib.hid hbx7
              have HF67 := Lib.hid F67
              have HLT6 := Lib.hid hlt6
              have HTT6 := Lib.hid htt6
              have HS7 := Lib.hid hs7
              clear hb6 ht6 F6 F7 F67 he7 hx7 hy7 hb7 ht7 hbx7 hlt6 htt6 hs7
              have hPk := peek_any b g N h l nn _ hr7 (by omega)
              have HR7 := Lib.hid hr7
              clear hr7
              generalize hKK : cut nn l.length = K at *
              generalize l.take K = tk at *
              generalize hdk : l.drop K = dk at *
              generalize hhd : ix N (h + K) = hd at *
              have hK2 : K ≤ l.length := hKl
              go_wp2_with fail
              generalize w6.alloc (.cells #[.int .i64 N, .int .i64 hd, .slice o6 (l.length - K) c6] 47) = w7 at *
              have hsz7 : w7.heap.size = w6.heap.size + 1 := HS7.out
              clear hKK hdk hhd
              refine hPk.mono ?_
              rintro e w8 ⟨o8, c8, rfl, hown8, hB8p⟩
              have F8p := Frm.of_below (ok := fun _ => True) hB8p (fun q hq _ => hq)
              have ht8 := HTT7.out.kept F8p (fun _ _ _ => trivial)
              have hSm := same_any (ok := fun _ => True) (ok' := fun q => q ≠ b ∧ q ≠ g ∧ q ≠ X) (.slice o8 K c8) (.slice ob K cb) tk w8 (Bytes.of_owns hown8 HTT6.out.symm (fun _ _ _ => trivial)) ht8 (by rw [HTT6.out]; omega)
              clear ht8 hown8 hPk e0 e1 e2
              go_wp2_with fail
              refine hSm.mono ?_
              rintro e w9 ⟨rfl, hB9⟩
              have F9 := F8p.trans (Frm.of_below (ok := fun _ => True) hB9 (fun q hq _ => hq))
              have hP9 : Pr w9 b g X N h l := ⟨HR7.out.kept F9 trivial trivial, ox, cx, frm_block F9 HX7.out trivial, HBX7.out.kept F9 (fun _ _ _ => trivial)⟩
              have hF19 : Frm (fun q => q ≠ b ∧ q ≠ g ∧ q ≠ X) W1 w9 := (HF67.out.mono (fun _ _ _ => trivial)).trans (F9.mono (fun _ _ _ => trivial))
              have hb9 := below_frm HB1.out HB1.out.size hF19 (fun q hq => ⟨by omega, by omega, by omega⟩)
              have hz9' := hF19.size
              obtain ⟨h9, hh9⟩ : ∃ h9, h9 = h := ⟨_, rfl⟩
              obtain ⟨l9, hl9⟩ : ∃ l9, l9 = l := ⟨_, rfl⟩
              rw [← hl9] at hP9
              rw [← hh9] at hP9
              clear F9 F8p hSm hh9 hl9 hF19
              have HP9 := Lib.hid hP9
              obtain ⟨hr9, o9, c9, hx9', hbx9⟩ := hP9
              have hT9 := told_any (ok := fun q => q ≠ b ∧ q ≠ g ∧ q ≠ X) b g N h9 o9 c9 l9 w9 hr9 hbx9
              have HT9 := Lib.hid hT9
              obtain ⟨y0, y1, y2, _⟩ := row3 hx9'
              have hz9 := hb9.size
              have HZ9 := Lib.hid hz9'
              clear hr9 hx9' hbx9 hT9
              go_wp2_with fail
              refine HT9.out.mono ?_
              rintro e w10 ⟨rfl, hB10⟩
              have hP10 := HP9.out.kept (Frm.of_below (ok := fun _ => True) hB10 (fun q hq _ => hq))
              have hb10 := hb9.trans (hB10.mono hz9)
              have hz10 := hB10.size
              have HP10 := Lib.hid hP10
              clear hP10 y0 y1 y2
              go_wp2_with fail
              go_roundw
              case rel => exact ⟨k + 1, h9, l9, by go_num, by omega, HP10.out, hb10, by have := HZ9.out; omega⟩
              case measure => simp [intOf]; omega
            · go_wp2_with fail
              generalize wr.alloc (.cells #[.int .u8 kd, .slice ov m.length cv, .int .i64 nn] 50) = W1 at *
              have hsz1 : W1.heap.size = wr.heap.size + 1 := HS1.out
              refine (refRead_any (ok := fun q => q ≠ b ∧ q ≠ g ∧ q ≠ X) N h ox cx l nn W1 HBX1.out (by omega) (by omega) (by omega) (by omega)).mono ?_
              rintro e w6 ⟨o6, c6, ob, cb, rfl, hb6, ht6, hB6⟩
              have hKl := cut_le nn l.length
              have F6 := Frm.of_below (ok := fun _ => True) hB6 (fun q hq _ => hq)
              have hz6 := hB6.size
              have hlt6 : (l.drop (cut nn l.length)).length = l.length - cut nn l.length := List.length_drop
              have htt6 : (l.take (cut nn l.length)).length = cut nn l.length := by rw [List.length_take]; omega
              have F7 : Frm (fun _ => True) w6 (w6.alloc (.cells #[.int .i64 N, .int .i64 (ix N (h + cut nn l.length) : Nat), .slice o6 (l.length - cut nn l.length) c6] 47)) := (Frm.refl _ _).alloc _
              have hy7 : (w6.alloc (.cells #[.int .i64 N, .int .i64 (ix N (h + cut nn l.length) : Nat), .slice o6 (l.length - cut nn l.length) c6] 47)).heap[w6.heap.size]? = some (.cells #[.int .i64 N, .int .i64 (ix N (h + cut nn l.length) : Nat), .slice o6 (l.length - cut nn l.length) c6] 47 (0, 0)) := World.alloc_heap_new w6 _
              have hs7 : (w6.alloc (.cells #[.int .i64 N, .int .i64 (ix N (h + cut nn l.length) : Nat), .slice o6 (l.length - cut nn l.length) c6] 47)).heap.size = w6.heap.size + 1 := World.size_alloc _ _
              have F67 := F6.trans F7
              have hr7 := HR1.out.kept F67 trivial trivial
              have hb7 := hb6.kept F7 (fun _ _ _ => trivial)
              have ht7 := ht6.kept F7 (fun _ _ _ => trivial)
              have he7 := frm_block F67 HE1.out trivial
              have hx7 := frm_block F67 HX1.out trivial
              have hbx7 := HBX1.out.kept F67 (fun _ _ _ => trivial)
              obtain ⟨e0, e1, e2, _⟩ := row3 he7
              have HHY7 := Lib.hid hy7
              have HX7 := Lib.hid hx7
              have HB7 := Lib.hid hb7
              have HTT7 := Lib.hid ht7
              have HBX7 := Lib.hid hbx7
              have HF67 := Lib.hid F67
              have HLT6 := Lib.hid hlt6
              have HTT6 := Lib.hid htt6
              have HS7 := Lib.hid hs7
              clear hb6 ht6 F6 F7 F67 he7 hx7 hy7 hb7 ht7 hbx7 hlt6 htt6 hs7
              have hDr := drop_any b g N h l nn _ hr7 (by omega)
              clear hr7
              generalize hKK : cut nn l.length = K at *
              generalize l.take K = tk at *
              generalize hdk : l.drop K = dk at *
              generalize hhd : ix N (h + K) = hd at *
              have hK2 : K ≤ l.length := hKl
              go_wp2_with fail
              generalize w6.alloc (.cells #[.int .i64 N, .int .i64 hd, .slice o6 (l.length - K) c6] 47) = w7 at *
              have hsz7 : w7.heap.size = w6.heap.size + 1 := HS7.out
              clear hKK hdk hhd
              refine hDr.mono ?_
              rintro e w8 ⟨rfl, hr8, hf8⟩
              have hy8 := frm_block hf8 HHY7.out (by omega)
              have hx8 := frm_block hf8 HX7.out (by omega)
              have hb8 := HB7.out.kept hf8 (fun q _ hq => hq.1)
              have hz8 := hf8.size
              obtain ⟨d0, d1, d2, _⟩ := row3 hy8
              obtain ⟨f0, f1, f2, f3, f4, f5⟩ := row3 hx8
              have HX8 := Lib.hid hx8
              have HR8 := Lib.hid hr8
              have HB8 := Lib.hid hb8
              clear hy8 hx8 hr8 hb8 hDr e0 e1 e2
              go_wp2_with fail
              generalize hW : World.setCell (World.setCell (World.setCell w8 _ _) _ _) _ _ = w9
              obtain ⟨hx9, F9⟩ := set3 HX8.out hW
              have hR9 := HR8.out.kept F9 (by omega) (by omega)
              have hbx9 : Bytes (fun q => q ≠ b ∧ q ≠ g ∧ q ≠ X) w9 (.slice o6 (dk).length c6) (dk) := by rw [HLT6.out]; exact HB8.out.kept F9 (fun q _ hq => hq.2.2)
              have hP9 : Pr w9 b g X N hd (dk) := ⟨hR9, o6, c6, by rw [HLT6.out]; exact hx9, hbx9⟩
              have hT9 := told_any (ok := fun q => q ≠ b ∧ q ≠ g ∧ q ≠ X) b g N hd o6 c6 (dk) w9 hR9 hbx9
              rw [HLT6.out] at hT9
              have hF19 : Frm (fun q => q ≠ b ∧ q ≠ g ∧ q ≠ X) W1 w9 := ((HF67.out.mono (fun _ _ _ => trivial)).trans (hf8.mono (fun _ _ h => h.1))).trans (F9.mono (fun _ _ h => h.2.2))
              have hb9 := below_frm HB1.out HB1.out.size hF19 (fun q hq => ⟨by omega, by omega, by omega⟩)
              have hz9' := hF19.size
              clear hW hx9 F9 d0 d1 d2 f0 f1 f2 f3 f4 f5 hF19
              have HP9 := Lib.hid hP9
              have HT9 := Lib.hid hT9
              have hz9 := hb9.size
              have HZ9 := Lib.hid hz9'
              clear hP9 hT9 hR9 hbx9
              refine HT9.out.mono ?_
              rintro e w10 ⟨rfl, hB10⟩
              have hP10 := HP9.out.kept (Frm.of_below (ok := fun _ => True) hB10 (fun q hq _ => hq))
              have hb10 := hb9.trans (hB10.mono hz9)
              have hz10 := hB10.size
              have HP10 := Lib.hid hP10
              clear hP10
              go_wp2_with fail
              go_roundw
              case rel => exact ⟨k + 1, _, _, by go_num, by omega, HP10.out, hb10, by have := HZ9.out; omega⟩
              case measure => simp [intOf]; omega
          · obtain ⟨hr, ox, cx, hx, hbx⟩ := hP
            obtain ⟨x0, x1, x2, _⟩ := row3 hx
            have hWk := walked_any (ok := fun q => q ≠ b ∧ q ≠ g ∧ q ≠ X) b g N h ox cx l wr hr hbx
            clear hr hx hbx
            go_wp2_with fail
            refine hWk.mono ?_
            rintro e w6 ⟨rfl, hB6⟩
            have hb6 := hbr.trans (hB6.mono hbr.size)
            go_wp2
            go_ret
            exact ⟨rfl, hb6⟩
  · go_wp2
    go_ret
    exact ⟨rfl, hB2⟩
end Go.Proofs.Ytmgkomobamjneaa
