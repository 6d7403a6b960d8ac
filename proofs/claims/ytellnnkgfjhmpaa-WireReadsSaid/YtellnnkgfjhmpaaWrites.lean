/-
  The walk of WireWrites.
-/
import Derived.Test.YtellnnkgfjhmpaaJ
import Derived.Test.YtellnnkgfjhmpaaR
import Derived.Deep.RegionHeld3
namespace Go.Proofs.Ytellnnkgfjhmpaa
open Go.RowKit

/-- The slice v reads as calls: a kind, bytes; the cells lie in blocks in 'ok'. -/
def Opsv (ok : Nat → Prop) (w : World) (v : Value) (L : List (Int × List UInt8)) : Prop :=
  ∃ o cap, v = .slice o L.length cap ∧ L.length ≤ cap ∧ cap ≤ maxLen ∧
    (L ≠ [] → ∃ b off, o = some ⟨b, off, none⟩ ∧ ok b ∧ b < w.heap.size ∧ ∀ i, i < L.length → w.cell? ⟨b, off + i * 2, none⟩ = some (.int .u8 (L.getD i (0, [])).1) ∧
      ∃ vi, w.cell? ⟨b, off + i * 2 + 1, none⟩ = some vi ∧ Bytes ok w vi (L.getD i (0, [])).2)
/-- How many bytes and calls. -/
def totO (L : List (Int × List UInt8)) : Nat := tot (L.map Prod.snd)
theorem totO_take {L : List (Int × List UInt8)} {k : Nat} (h : k < L.length) : totO (L.take (k + 1)) = totO (L.take k) + ((L.getD k (0, [])).2.length + 1) := by
  unfold totO
  rw [List.map_take, List.map_take, tot_take (by simpa using h)]
  simp [List.getD, h]
theorem totO_take_le (L : List (Int × List UInt8)) (k : Nat) : totO (L.take k) ≤ totO L := by
  unfold totO
  rw [List.map_take]
  exact tot_take_le _ _

theorem set5 {w W : World} {X : Nat} {v0 v1 v2 v3 v4 u0 u1 u2 u3 u4 : Value} {t : TypeId} {o : Obj} (h : w.heap[X]? = some (.cells #[v0, v1, v2, v3, v4] t (0, 0)))
    (hW : (((((w.setCell ⟨X, 0, none⟩ u0).setCell ⟨X, 1, none⟩ u1).setCell ⟨X, 2, none⟩ u2).setCell ⟨X, 3, none⟩ u3).setCell ⟨X, 4, none⟩ u4).alloc o = W) :
    W.heap[X]? = some (.cells #[u0, u1, u2, u3, u4] t (0, 0)) ∧ Frm (fun q => q ≠ X) w W := by
  subst hW
  have hX := lt_of_block h
  refine ⟨?_, (((((Frm.refl _ _).setCell _ _ _ (fun _ h => h rfl)).setCell _ _ _ (fun _ h => h rfl)).setCell _ _ _ (fun _ h => h rfl)).setCell _ _ _ (fun _ h => h rfl)).setCell _ _ _ (fun _ h => h rfl) |>.alloc _⟩
  rw [Below.heap_alloc _ _ _ (by simp only [World.size_setCell]; exact hX)]
  exact row_setCell' (row_setCell' (row_setCell' (row_setCell' (row_setCell' h))))

theorem set5b {w W : World} {X : Nat} {v0 v1 v2 v3 v4 u0 u1 u2 u3 u4 : Value} {t : TypeId} {o o2 : Obj} (h : w.heap[X]? = some (.cells #[v0, v1, v2, v3, v4] t (0, 0)))
    (hW : ((((((w.setCell ⟨X, 0, none⟩ u0).setCell ⟨X, 1, none⟩ u1).setCell ⟨X, 2, none⟩ u2).setCell ⟨X, 3, none⟩ u3).setCell ⟨X, 4, none⟩ u4).alloc o).alloc o2 = W) :
    W.heap[X]? = some (.cells #[u0, u1, u2, u3, u4] t (0, 0)) ∧ Frm (fun q => q ≠ X) w W := by
  subst hW
  obtain ⟨h1, h2⟩ := set5 h rfl (o := o) (u0 := u0) (u1 := u1) (u2 := u2) (u3 := u3) (u4 := u4)
  exact ⟨(Below.heap_alloc _ _ _ (lt_of_block h1)).trans h1, h2.alloc _⟩
theorem writeOf_len (T : List Int) (en : Int) (G : List UInt8) (cl go : Bool) (l : List UInt8) : (writeOf T en G cl go l).2.1.length ≤ G.length + l.length := by
  have hh := takeN_le T en l.length
  unfold writeOf
  repeat' split
  all_goals (simp <;> omega)
theorem anyNeg_tl {T : List Int} (h : anyNeg T = false) : anyNeg T.tail = false := by
  cases T with
  | nil => rfl
  | cons z t => simp [anyNeg] at h ⊢; exact h.2
theorem writeOf_neg (T : List Int) (en : Int) (G : List UInt8) (cl go : Bool) (l : List UInt8) (h : anyNeg T = false) : anyNeg (writeOf T en G cl go l).1 = false := by
  unfold writeOf
  repeat' split
  all_goals first | exact h | exact anyNeg_tl h

/-- The drain and the document's drain, alike. -/
def Par (w : World) (b base : Nat) (M : Nat → Prop) (X : Nat) (en : Int) (T : List Int) (G : List UInt8) (cl go : Bool) : Prop :=
  ∃ gv ot ct og cg, Drn w b base M gv T en G cl go ∧ w.heap[X]? = some (.cells #[.slice ot T.length ct, .int .i64 en, .slice og G.length cg, .bool cl, .bool go] 60 (0, 0)) ∧
    Ints (fun q => q ≠ b ∧ q ≠ X ∧ some q ≠ gv.ownBlock) w (.slice ot T.length ct) T ∧ Bytes (fun q => q ≠ b ∧ q ≠ X ∧ some q ≠ gv.ownBlock) w (.slice og G.length cg) G ∧ gv.ownBlock ≠ some X
theorem Par.kept {w w' : World} {b base X : Nat} {M : Nat → Prop} {en : Int} {T : List Int} {G : List UInt8} {cl go : Bool} (h : Par w b base M X en T G cl go) (hf : Frm (fun _ => True) w w') : Par w' b base M X en T G cl go := by
  obtain ⟨gv, ot, ct, og, cg, h1, h2, h3, h4, h5⟩ := h
  exact ⟨gv, ot, ct, og, cg, h1.kept hf trivial (fun _ _ _ => trivial) (fun _ _ => trivial), frm_block hf h2 trivial, h3.kept hf (fun _ _ _ => trivial), h4.kept hf (fun _ _ _ => trivial), h5⟩

set_option maxRecDepth 100000 in
set_option maxHeartbeats 8000000 in
theorem wireWrites_any (v0 v : Value) (T : List Int) (en : Int) (L : List (Int × List UInt8)) (w : World) (hI : Ints (fun _ => True) w v0 T) (h : Opsv (fun _ => True) w v L) (hTl : T.length ≤ 140737488355328)
    (hl : ∀ i, i < L.length → (L.getD i (0, [])).2.length ≤ 140737488355328 ∧ 0 ≤ (L.getD i (0, [])).1 ∧ (L.getD i (0, [])).1 ≤ 255) :
    Calls Try.prog 7 #[v0, .int .i64 en, v] w fun e w' => e = .returned (.bool true) ∧ Below w.heap.size w w' := by
  obtain ⟨o0, cap0, rfl, hd1, hd2, _⟩ := hI.form
  obtain ⟨o, cap, rfl, hc1, hc2, h4⟩ := h
  unfold maxLen at hc2 hd2
  have H4 := Lib.hid h4
  have HL := Lib.hid hl
  have HI := Lib.hid hI
  clear h4 hl hI
  go_enter Try.func7, Try.ntmps7
  go_wp2_with fail
  refine (wakes_any _).mono ?_
  rintro e w1 ⟨rfl, hB1⟩
  have hz1 := hB1.size
  go_wp2_with fail
  go_loopw [7, 25] (fun n i wr => ∃ k : Nat, i = .int .i64 k ∧ n = .int .i64 (totO (L.take k) : Nat) ∧ k ≤ L.length ∧ totO (L.take k) ≤ 500 ∧ Below w.heap.size w wr) (fun _ i _ => L.length - (intOf i).toNat)
  case atStart => exact ⟨0, rfl, by simp [totO, tot], Nat.zero_le _, by simp [totO, tot], hB1⟩
  case round =>
    obtain ⟨k, rfl, rfl, hk, hS, hb⟩ := hrel
    have hzr := hb.size
    by_cases hlt : k < L.length
    · have hl0 : L ≠ [] := by intro e; rw [e] at hlt; simp at hlt
      obtain ⟨b, off, rfl, _, hbs, hc⟩ := H4.out hl0
      obtain ⟨hk0, vi, hk1, hby⟩ := hc k hlt
      have c0 := (hb.cell (p := ⟨b, off + k * 2, none⟩) hbs).trans hk0
      have c1 := (hb.cell (p := ⟨b, off + k * 2 + 1, none⟩) hbs).trans hk1
      obtain ⟨ov, cv, rfl, q1, q2, _⟩ := hby.form
      unfold maxLen at q2
      obtain ⟨hp, hu1, hu2⟩ := HL.out k hlt
      have HST := Lib.hid (totO_take hlt)
      generalize totO (L.take k) = S at *
      generalize (L.getD k (0, [])).2 = l at *
      generalize (L.getD k (0, [])).1 = kd at *
      clear hc hk0 hk1 hby
      have hba : ∀ o, Below w.heap.size w (wr.alloc o) := fun o => hb.alloc hzr o
      have HBA := Lib.hid hba
      clear hba
      by_cases h5 : S + (l.length + 1) ≤ 500
      · go_wp2
        go_roundw
        case rel => exact ⟨k + 1, by go_num, by rw [HST.out]; congr 1, by omega, by rw [HST.out]; omega, HBA.out _⟩
        case measure => simp [intOf]; omega
      · go_wp2
        go_ret
        exact ⟨rfl, HBA.out _⟩
    · obtain rfl : k = L.length := by omega
      rw [List.take_length] at hS
      have HS := Lib.hid hS
      clear hS
      generalize totO (L.take L.length) = S0 at *
      by_cases hlen : T.length ≤ 100
      · generalize wr = w2 at *
        have I2 := HI.out.kept (Frm.of_below (ok := fun _ => True) hb (fun q hq _ => hq)) (fun _ _ _ => trivial)
        by_cases hbad : anyNeg T = true ∨ en < 0 ∨ 2 < en
        · go_wp2_with fail
          refine (newDrain_no _ T en w2 I2 (by omega) hbad).mono ?_
          rintro e w3 ⟨rfl, hB3⟩
          have I3 := I2.kept (Frm.of_below (ok := fun _ => True) hB3 (fun q hq _ => hq)) (fun _ _ _ => trivial)
          have hf : (!anyNeg T && decide (0 ≤ en) && decide (en ≤ 2)) = false := by
            rcases hbad with h | h | h
            · simp [h]
            · simp; omega
            · simp; omega
          have HR := refRight_any _ T en w3 I3 (by omega)
          rw [hf] at HR
          clear I2 I3 hf hbad
          go_wp2_with fail
          refine HR.mono ?_
          rintro e w4 ⟨rfl, hB4⟩
          go_wp2
          go_ret
          exact ⟨rfl, (hb.trans (hB3.mono hzr)).trans (hB4.mono (Nat.le_trans hzr hB3.size))⟩
        · have hneg : anyNeg T = false := by
            rcases h : anyNeg T with _ | _
            · rfl
            · exact (hbad (.inl h)).elim
          have he0 : 0 ≤ en := by omega
          have he2 : en ≤ 2 := by omega
          clear hbad
          go_wp2_with fail
          refine (newDrain_ok _ T en w2 I2 (by omega) hneg he0 he2).mono ?_
          rintro e w3 ⟨b, rfl, ⟨hb1, hb2⟩, hd3, hB3⟩
          have hz3 := hB3.size
          have I3 := HI.out.mono (ok' := fun q => q < w.heap.size) (fun q hq _ => hq) |>.kept (Frm.of_below (ok := fun q => q < w.heap.size) (hb.trans (hB3.mono hzr)) (fun q _ hq => hq)) (fun _ _ hq => hq)
          have HR := refRight_any _ T en w3 I3 (by omega)
          rw [show (!anyNeg T && decide (0 ≤ en) && decide (en ≤ 2)) = true by simp [hneg, he0, he2]] at HR
          have HD3 := Lib.hid hd3
          have hB13 := hb.trans (hB3.mono hzr)
          clear I2 hd3
          go_wp2_with fail
          refine HR.mono ?_
          rintro e w4 ⟨rfl, hB4⟩
          have F4 := Frm.of_below (ok := fun _ => True) hB4 (fun q hq _ => hq)
          have hd4 := HD3.out.kept F4 trivial (fun _ _ _ => trivial) (fun _ _ => trivial)
          have I4 := I3.kept F4 (fun _ _ _ => trivial)
          have hB14 := hB13.trans (hB4.mono hB13.size)
          have hz4 := hB4.size
          have hz14 := hB14.size
          have hPar : Par (w4.alloc (.cells #[.slice o0 T.length cap0, .int .i64 en, .slice none 0 0, .bool false, .bool false] 60)) b w3.heap.size (fun q => w2.heap.size ≤ q ∧ q < w3.heap.size) w4.heap.size en T [] false false := by
            have F5 : Frm (fun _ => True) w4 (w4.alloc (.cells #[.slice o0 T.length cap0, .int .i64 en, .slice none 0 0, .bool false, .bool false] 60)) := (Frm.refl _ _).alloc _
            exact ⟨_, o0, cap0, none, 0, hd4.kept F5 trivial (fun _ _ _ => trivial) (fun _ _ => trivial), heap_alloc_new _ _, (I4.kept F5 (fun _ _ _ => trivial)).mono (fun q _ hq => ⟨by omega, by omega, by simp [Value.ownBlock]⟩), .inl ⟨rfl, rfl⟩, by simp [Value.ownBlock]⟩
          have hB5 : Below w.heap.size w (w4.alloc (.cells #[.slice o0 T.length cap0, .int .i64 en, .slice none 0 0, .bool false, .bool false] 60)) := hB14.alloc hz14 _
          have hz5 : w4.heap.size < (w4.alloc (.cells #[.slice o0 T.length cap0, .int .i64 en, .slice none 0 0, .bool false, .bool false] 60)).heap.size := by rw [World.size_alloc]; omega
          have HPar := Lib.hid hPar
          clear HR I3 I4 hd4 hPar F4
          go_wp2_with fail
          generalize w4.alloc (.cells #[.slice o0 T.length cap0, .int .i64 en, .slice none 0 0, .bool false, .bool false] 60) = w5 at *
          go_loopw [69] (fun i wr => ∃ k : Nat, ∃ Tk Gk clk gok, i = .int .i64 k ∧ k ≤ L.length ∧ Par wr b w3.heap.size (fun q => w2.heap.size ≤ q ∧ q < w3.heap.size) w4.heap.size en Tk Gk clk gok ∧ anyNeg Tk = false ∧ Gk.length ≤ totO (L.take k) ∧ Below w.heap.size w wr ∧ w5.heap.size ≤ wr.heap.size) (fun i _ => L.length - (intOf i).toNat)
          case atStart => exact ⟨0, T, [], false, false, rfl, Nat.zero_le _, HPar.out, hneg, by simp, hB5, Nat.le_refl _⟩
          case round =>
            obtain ⟨k, Tk, Gk, clk, gok, rfl, hk, hP, hng, hG, hbr, hzw⟩ := hrel
            by_cases hlt : k < L.length
            · have hl0 : L ≠ [] := by intro e; rw [e] at hlt; simp at hlt
              obtain ⟨bb, off, rfl, _, hbs, hc⟩ := H4.out hl0
              obtain ⟨hk0, vi, hk1, hby⟩ := hc k hlt
              have c0 := (hbr.cell (p := ⟨bb, off + k * 2, none⟩) hbs).trans hk0
              have c1 := (hbr.cell (p := ⟨bb, off + k * 2 + 1, none⟩) hbs).trans hk1
              have hby2 : Bytes (fun q => q < w.heap.size) wr vi (L.getD k (0, [])).2 := (hby.mono (ok' := fun q => q < w.heap.size) (fun q hq _ => hq)).kept (Frm.of_below (ok := fun q => q < w.heap.size) hbr (fun q _ hq => hq)) (fun _ _ hq => hq)
              obtain ⟨ov, cv, rfl, q1, q2, _⟩ := hby2.form
              unfold maxLen at q2
              obtain ⟨_, hu1, hu2⟩ := HL.out k hlt
              have HST := Lib.hid (totO_take hlt)
              have hSle := totO_take_le L (k + 1)
              have hSS := HS.out
              rw [HST.out] at hSle
              generalize totO (L.take k) = S at *
              generalize (L.getD k (0, [])).2 = l at *
              generalize (L.getD k (0, [])).1 = kd at *
              have HBY := Lib.hid hby2
              clear hc hk0 hk1 hby hby2
              obtain ⟨gv, ot, ct, og, cg, hd, hx, hi, hbg, hgx⟩ := hP
              have hXl := lt_of_block hx
              have F1 : Frm (fun _ => True) wr (wr.alloc (.cells #[.int .u8 kd, .slice ov l.length cv] 58)) := (Frm.refl _ _).alloc _
              have hx1 := frm_block F1 hx trivial
              obtain ⟨x0, x1, x2, x3, x4, y0, y1, y2, y3, y4⟩ := row5 hx
              have hB1r := hbr.alloc hbr.size (.cells #[.int .u8 kd, .slice ov l.length cv] 58)
              have HX1 := Lib.hid hx1
              have HD := Lib.hid hd
              have HIK := Lib.hid hi
              have HBG := Lib.hid hbg
              clear hx hx1 hd hi hbg
              generalize hXX : w4.heap.size = X at *
              by_cases hk3 : kd % 4 = 3
              · have hB1s : wr.heap.size < (wr.alloc (.cells #[.int .u8 kd, .slice ov l.length cv] 58)).heap.size := by rw [World.size_alloc]; omega
                go_wp2_with fail
                generalize wr.alloc (.cells #[.int .u8 kd, .slice ov l.length cv] 58) = W1 at *
                refine (refClose_any ot og Tk.length ct Gk.length cg en clk gok W1).mono ?_
                rintro e w7 ⟨rfl, hB7⟩
                have F7 := F1.trans (Frm.of_below (ok := fun _ => True) hB7 (fun q hq _ => hq))
                have hx7 := frm_block (Frm.of_below (ok := fun _ => True) hB7 (fun q hq _ => hq)) HX1.out trivial
                obtain ⟨p0, p1, p2, p3, p4, r0, r1, r2, r3, r4⟩ := row5 hx7
                have hX7 := lt_of_block hx7
                have hz7 := F7.size
                have HX7 := Lib.hid hx7
                have HF7 := Lib.hid F7
                clear x0 x1 x2 x3 x4 y0 y1 y2 y3 y4 hx7 F7 F1
                generalize hsv : stateOf clk gok = sv at *
                go_wp2_with fail
                generalize hW : World.alloc (World.setCell (World.setCell (World.setCell (World.setCell (World.setCell w7 _ _) _ _) _ _) _ _) _ _) _ = w8
                obtain ⟨hx8, F8⟩ := set5 HX7.out hW
                have hF8 : Frm (fun q => q ≠ X) wr w8 := (HF7.out.mono (fun _ _ _ => trivial)).trans F8
                have hd8 := HD.out.kept hF8 (by omega) (fun q hq _ => by omega) (fun q hq e => hgx (by rw [hq, e]))
                have hC8 : Calls Try.prog 21 #[.pointer (some ⟨b, 0, none⟩)] w8 fun e w' => e = .returned (.int .i64 (stateOf clk gok)) ∧ Drn w' b w3.heap.size (fun q => w2.heap.size ≤ q ∧ q < w3.heap.size) gv Tk en Gk (clk || !gok) gok ∧ Frm (fun q => q ≠ b) w8 w' := close_any b w3.heap.size _ gv Tk en Gk clk gok w8 hd8
                rw [hsv] at hC8
                have HX8 := Lib.hid hx8
                clear hd8 hx8 p0 p1 p2 p3 p4 r0 r1 r2 r3 r4 hW
                refine hC8.mono ?_
                rintro e w9 ⟨rfl, hd9, hf9⟩
                have HXZ := Lib.hid (frm_block hf9 HX8.out (by omega))
                have hF9 : Frm (fun q => q ≠ X ∧ q ≠ b) wr w9 := (hF8.mono (fun _ _ h => h.1)).trans (hf9.mono (fun _ _ h => h.2))
                have HDZ := Lib.hid hd9
                have HIZ := Lib.hid (HIK.out.kept hF9 (fun q _ hq => ⟨hq.2.1, hq.1⟩))
                have HBZ := Lib.hid (HBG.out.kept hF9 (fun q _ hq => ⟨hq.2.1, hq.1⟩))
                have hbZ := below_frm hbr hbr.size hF9 (fun q hq => ⟨by omega, by omega⟩)
                have hzZ := hF9.size
                clear hd9 hC8
                generalize hcz : (clk || !gok) = clz at *
                go_wp2_with fail
                have hxZ := row5 HXZ.out
                have hSZ : ∀ w', Frm (fun _ => True) w9 w' → (w'.cell? ⟨X, 2, none⟩ = some (.slice og (Gk).length cg) ∧ w'.cell? ⟨X, 3, none⟩ = some (.bool (clz))) := fun w' hf => by
                  have e := row5 (frm_block hf HXZ.out trivial)
                  exact ⟨e.2.2.1, e.2.2.2.1⟩
                have HSZ := Lib.hid hSZ
                obtain ⟨z2, z3⟩ := hSZ _ (Frm.refl _ _)
                clear hSZ hxZ
                go_region_held3 (fun w' => w'.cell? ⟨X, 2, none⟩ = some (.slice og (Gk).length cg) ∧ w'.cell? ⟨X, 3, none⟩ = some (.bool (clz)))
                  (first | exact HSZ.out _ FB | exact HSZ.out _ FA | exact HSZ.out _ (Frm.refl _ _) | exact HSZ.out _ (Frm.refl _ _).drew)
                  (first
                    | (go_at_call 18; (with_reducible refine (got_any b w3.heap.size (fun q => w2.heap.size ≤ q ∧ q < w3.heap.size) (gv) (Tk) en (Gk) (clz) (gok) _ ?_ (by omega)).mono ?_); exact HDZ.out.kept (Frm.refl (fun _ => True) _).drew trivial (fun _ _ _ => trivial) (fun _ _ => trivial); rintro e w10 ⟨o10, c10, rfl, hown10, hB10⟩; have FA : Frm (fun _ => True) w9 w10 := (Frm.of_below hB10 (fun q hq _ => hq)).undrew)
                    | (go_at_call 12; (with_reducible refine (same_any (ok := fun _ => True) (ok' := fun q => q ≠ b ∧ q ≠ X ∧ some q ≠ gv.ownBlock) (.slice o10 (Gk).length c10) (.slice og (Gk).length cg) (Gk) _ ?_ ?_ (by omega)).mono ?_); exact Bytes.of_owns hown10 rfl (fun _ _ _ => trivial); exact HBZ.out.kept FA (fun _ _ _ => trivial); rintro e w11 ⟨rfl, hB11⟩; have FB : Frm (fun _ => True) w9 w11 := FA.trans (Frm.of_below hB11 (fun q hq _ => hq)))
                    | (go_at_call 23; (with_reducible refine (closed_any b w3.heap.size (fun q => w2.heap.size ≤ q ∧ q < w3.heap.size) (gv) (Tk) en (Gk) (clz) (gok) _ ?_).mono ?_); exact HDZ.out.kept FB trivial (fun _ _ _ => trivial) (fun _ _ => trivial); rintro e w12 ⟨rfl, rfl⟩))
                have hPZ : Par w9 b w3.heap.size (fun q => w2.heap.size ≤ q ∧ q < w3.heap.size) X en Tk Gk clz gok := ⟨gv, ot, ct, og, cg, HDZ.out, HXZ.out, HIZ.out, HBZ.out, hgx⟩
                have hPB := hPZ.kept FB
                have hbB := below_frm hbZ hbZ.size FB (fun _ _ => trivial)
                have hzB := FB.size
                go_wp2
                go_roundw
                case rel => exact ⟨k + 1, Tk, Gk, clz, gok, by go_num, by omega, hPB, hng, by rw [HST.out]; omega, hbB, by omega⟩
                case measure => simp [intOf]; omega
              · have hgv : ∀ q, gv.ownBlock = some q → w3.heap.size ≤ q ∧ q < wr.heap.size := by
                  obtain ⟨_, _, _, h3, _⟩ := HD.out
                  exact fun q hq => h3.lt q hq
                have ho1 : (wr.alloc (.cells #[.int .u8 kd, .slice ov l.length cv] 58)).heap[wr.heap.size]? = some (.cells #[.int .u8 kd, .slice ov l.length cv] 58 (0, 0)) := heap_alloc_new wr _
                have hd1 := HD.out.kept F1 trivial (fun _ _ _ => trivial) (fun _ _ => trivial)
                have hby1 := HBY.out.kept F1 (fun _ _ _ => trivial)
                have hz1' : (wr.alloc (.cells #[.int .u8 kd, .slice ov l.length cv] 58)).heap.size = wr.heap.size + 1 := World.size_alloc _ _
                have hWr := write_any b w3.heap.size _ gv Tk en Gk clk gok _ l _ hd1 hng he0 he2 hby1 (by omega) (by omega) (fun h => h rfl) (fun q hq => by omega) (by omega)
                have hwl := writeOf_len Tk en Gk clk gok l
                have hwn := writeOf_neg Tk en Gk clk gok l hng
                have hRf := fun (ok : Nat → Prop) (W : World) (ot og : Option Addr) (ct cg : Nat) h1 h2 h3 => refWrite_any (ok := ok) ot og ov ct cg cv Tk en Gk l clk gok W h1 h2 h3 hng he0 he2 (by omega) (by omega)
                generalize writeOf Tk en Gk clk gok l = R at *
                obtain ⟨T', G', go', n', er⟩ := R
                dsimp only at hWr hwl hwn
                have HRF := Lib.hid hRf
                have HO1 := Lib.hid ho1
                have HZ1 := Lib.hid hz1'
                clear hd1 hRf ho1 hz1'
                go_wp2_with fail
                generalize wr.alloc (.cells #[.int .u8 kd, .slice ov l.length cv] 58) = W1 at *
                refine hWr.mono ?_
                rintro e w7 ⟨gv', rfl, hd7, hat7, hf7⟩
                have hsz1 : W1.heap.size = wr.heap.size + 1 := HZ1.out
                have hz7 := hf7.size
                have hgv' : ∀ q, gv'.ownBlock = some q → q < w7.heap.size := by
                  obtain ⟨_, _, _, h3, _⟩ := hd7
                  exact fun q hq => (h3.lt q hq).2
                have hbq : some b ≠ gv.ownBlock := fun e => by have := hgv b e.symm; omega
                have hx7 := frm_block hf7 HX1.out ⟨by omega, fun e => hgx e.symm⟩
                have ho7 := frm_block hf7 HO1.out ⟨by omega, fun e => by have := hgv _ e.symm; omega⟩
                obtain ⟨p0, p1, p2, p3, p4, r0, r1, r2, r3, r4⟩ := row5 hx7
                have s0 : w7.cell? ⟨wr.heap.size, 0, none⟩ = some (.int .u8 kd) := (cell_of_row _ _ 0 _ _ _ ho7).trans rfl
                have s1 : w7.cell? ⟨wr.heap.size, 1, none⟩ = some (.slice ov l.length cv) := (cell_of_row _ _ 1 _ _ _ ho7).trans rfl
                have hF17 : Frm (fun q => q ≠ b ∧ some q ≠ gv.ownBlock) wr w7 := (F1.mono (fun _ _ _ => trivial)).trans hf7
                have hI7 : Ints (fun q => q ≠ b ∧ q ≠ X ∧ some q ≠ gv.ownBlock ∧ q < W1.heap.size) w7 (.slice ot Tk.length ct) Tk := (HIK.out.mono (ok' := fun q => q ≠ b ∧ q ≠ X ∧ some q ≠ gv.ownBlock ∧ q < W1.heap.size) (fun q hq h => ⟨h.1, h.2.1, h.2.2, by omega⟩)).kept hF17 (fun q _ hq => ⟨hq.1, hq.2.2.1⟩)
                have hG7 : Bytes (fun q => q ≠ b ∧ q ≠ X ∧ some q ≠ gv.ownBlock ∧ q < W1.heap.size) w7 (.slice og Gk.length cg) Gk := (HBG.out.mono (ok' := fun q => q ≠ b ∧ q ≠ X ∧ some q ≠ gv.ownBlock ∧ q < W1.heap.size) (fun q hq h => ⟨h.1, h.2.1, h.2.2, by omega⟩)).kept hF17 (fun q _ hq => ⟨hq.1, hq.2.2.1⟩)
                have hb7 : Bytes (fun q => q ≠ b ∧ q ≠ X ∧ some q ≠ gv.ownBlock ∧ q < W1.heap.size) w7 (.slice ov l.length cv) l := (HBY.out.mono (ok' := fun q => q ≠ b ∧ q ≠ X ∧ some q ≠ gv.ownBlock ∧ q < W1.heap.size) (fun q hq h => ⟨by omega, by omega, fun e => by have := hgv q e.symm; omega, by omega⟩)).kept hF17 (fun q _ hq => ⟨hq.1, hq.2.2.1⟩)
                have hRW := HRF.out _ w7 ot og ct cg hI7 hG7 hb7
                have HX7 := Lib.hid hx7
                have HD7 := Lib.hid hd7
                have hX7 : X < w7.heap.size := by omega
                have hO7 : wr.heap.size < w7.heap.size := by omega
                clear x0 x1 x2 x3 x4 y0 y1 y2 y3 y4 hx7 ho7 hd7 hI7 hG7 hb7 hWr hby1
                go_wp2_with fail
                refine hRW.mono ?_
                rintro e w8 ⟨ot2, ct2, og2, cg2, rfl, hI8, hG8, hB8⟩
                have F8 := Frm.of_below (ok := fun _ => True) hB8 (fun q hq _ => hq)
                have hx8 := frm_block F8 HX7.out trivial
                obtain ⟨j0, j1, j2, j3, j4, i0, i1, i2, i3, i4⟩ := row5 hx8
                have hX8 := lt_of_block hx8
                have hz8 := F8.size
                have HX8 := Lib.hid hx8
                have HI8 := Lib.hid hI8
                have HG8 := Lib.hid hG8
                clear p0 p1 p2 p3 p4 r0 r1 r2 r3 r4 s0 s1 hx8 hI8 hG8 hRW
                go_wp2_with fail
                generalize hW : World.alloc (World.alloc (World.setCell (World.setCell (World.setCell (World.setCell (World.setCell w8 _ _) _ _) _ _) _ _) _ _) _) _ = w9
                obtain ⟨hx9, F9⟩ := set5b HX8.out hW
                have hnX' : gv'.ownBlock ≠ some X := fun e => by
                  rcases hat7 with e2 | ⟨k2, hk2, e2⟩
                  · exact hgx (by rw [← e2, e])
                  · rw [e2] at e
                    cases e
                    omega
                have hsep : ∀ q, some q ≠ gv.ownBlock → q < W1.heap.size → some q ≠ gv'.ownBlock := fun q hq hq2 e => by
                  rcases hat7 with e2 | ⟨k2, hk2, e2⟩
                  · exact hq (by rw [e, e2])
                  · rw [e2] at e
                    cases e
                    omega
                have HXZ := Lib.hid hx9
                have HDZ := Lib.hid ((HD7.out.kept F8 trivial (fun _ _ _ => trivial) (fun _ _ => trivial)).kept F9 (by omega) (fun q hq _ => by omega) (fun q hq e => hnX' (by rw [hq, e])))
                have HIZ := Lib.hid ((HI8.out.kept F9 (fun q _ hq => hq.2.1)).mono (ok' := fun q => q ≠ b ∧ q ≠ X ∧ some q ≠ gv'.ownBlock) (fun q _ hq => ⟨hq.1, hq.2.1, hsep q hq.2.2.1 hq.2.2.2⟩))
                have HBZ := Lib.hid ((HG8.out.kept F9 (fun q _ hq => by
                  rcases hq with hq | hq
                  · exact hq.2.1
                  · omega)).mono (ok' := fun q => q ≠ b ∧ q ≠ X ∧ some q ≠ gv'.ownBlock) (fun q _ hq => by
                  rcases hq with hq | hq
                  · exact ⟨hq.1, hq.2.1, hsep q hq.2.2.1 hq.2.2.2⟩
                  · exact ⟨by omega, by omega, fun e => by have := hgv' q e.symm; omega⟩))
                have hF19 : Frm (fun q => q ≠ b ∧ q ≠ X ∧ some q ≠ gv.ownBlock) wr w9 := ((hF17.mono (fun _ _ h => ⟨h.1, h.2.2⟩)).trans (F8.mono (fun _ _ _ => trivial))).trans (F9.mono (fun _ _ h => h.2.1))
                have hbZ := below_frm hbr hbr.size hF19 (fun q hq => ⟨by omega, by omega, fun e => by have := hgv q e.symm; omega⟩)
                have hzZ := hF19.size
                clear j0 j1 j2 j3 j4 i0 i1 i2 i3 i4 hx9 hW
                have hxZ := row5 HXZ.out
                have hSZ : ∀ w', Frm (fun _ => True) w9 w' → (w'.cell? ⟨X, 2, none⟩ = some (.slice og2 (G').length cg2) ∧ w'.cell? ⟨X, 3, none⟩ = some (.bool (clk))) := fun w' hf => by
                  have e := row5 (frm_block hf HXZ.out trivial)
                  exact ⟨e.2.2.1, e.2.2.2.1⟩
                have HSZ := Lib.hid hSZ
                obtain ⟨z2, z3⟩ := hSZ _ (Frm.refl _ _)
                clear hSZ hxZ
                go_region_held3 (fun w' => w'.cell? ⟨X, 2, none⟩ = some (.slice og2 (G').length cg2) ∧ w'.cell? ⟨X, 3, none⟩ = some (.bool (clk)))
                  (first | exact HSZ.out _ FB | exact HSZ.out _ FA | exact HSZ.out _ (Frm.refl _ _) | exact HSZ.out _ (Frm.refl _ _).drew)
                  (first
                    | (go_at_call 18; (with_reducible refine (got_any b w3.heap.size (fun q => w2.heap.size ≤ q ∧ q < w3.heap.size) (gv') (T') en (G') (clk) (go') _ ?_ (by omega)).mono ?_); exact HDZ.out.kept (Frm.refl (fun _ => True) _).drew trivial (fun _ _ _ => trivial) (fun _ _ => trivial); rintro e w10 ⟨o10, c10, rfl, hown10, hB10⟩; have FA : Frm (fun _ => True) w9 w10 := (Frm.of_below hB10 (fun q hq _ => hq)).undrew)
                    | (go_at_call 12; (with_reducible refine (same_any (ok := fun _ => True) (ok' := fun q => q ≠ b ∧ q ≠ X ∧ some q ≠ (gv').ownBlock) (.slice o10 (G').length c10) (.slice og2 (G').length cg2) (G') _ ?_ ?_ (by omega)).mono ?_); exact Bytes.of_owns hown10 rfl (fun _ _ _ => trivial); exact HBZ.out.kept FA (fun _ _ _ => trivial); rintro e w11 ⟨rfl, hB11⟩; have FB : Frm (fun _ => True) w9 w11 := FA.trans (Frm.of_below hB11 (fun q hq _ => hq)))
                    | (go_at_call 23; (with_reducible refine (closed_any b w3.heap.size (fun q => w2.heap.size ≤ q ∧ q < w3.heap.size) (gv') (T') en (G') (clk) (go') _ ?_).mono ?_); exact HDZ.out.kept FB trivial (fun _ _ _ => trivial) (fun _ _ => trivial); rintro e w12 ⟨rfl, rfl⟩))
                have hPZ : Par w9 b w3.heap.size (fun q => w2.heap.size ≤ q ∧ q < w3.heap.size) X en T' G' clk go' := ⟨gv', ot2, ct2, og2, cg2, HDZ.out, HXZ.out, HIZ.out, HBZ.out, hnX'⟩
                have hPB := hPZ.kept FB
                have hbB := below_frm hbZ hbZ.size FB (fun _ _ => trivial)
                have hzB := FB.size
                go_wp2
                go_roundw
                case rel => exact ⟨k + 1, T', G', clk, go', by go_num, by omega, hPB, hwn, by rw [HST.out]; omega, hbB, by omega⟩
                case measure => simp [intOf]; omega
            · go_wp2
              go_ret
              exact ⟨rfl, hbr⟩
      · go_wp2
        go_ret
        exact ⟨rfl, hb⟩
end Go.Proofs.Ytellnnkgfjhmpaa
