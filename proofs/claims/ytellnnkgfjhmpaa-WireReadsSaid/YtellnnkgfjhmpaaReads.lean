/-
  The walk of WireReads.
-/
import Derived.Test.YtellnnkgfjhmpaaS
import Derived.Test.YtellnnkgfjhmpaaV
import Derived.Test.YtellnnkgfjhmpaaWrites
import Derived.Deep.RegionHeld3
namespace Go.Proofs.Ytellnnkgfjhmpaa
open Go.RowKit

/-- The source and the document's source, alike. -/
def Pas (w : World) (b : Nat) (M : Nat → Prop) (g X : Nat) (en : Int) (L : List (List UInt8)) (beg : Bool) (rd : Nat) (sh : Bool) : Prop :=
  ∃ oL cL, Src w b M g L beg en rd sh ∧ w.heap[X]? = some (.cells #[.slice oL L.length cL, .bool beg, .int .i64 en, .int .i64 rd, .bool sh] 39 (0, 0)) ∧
    Pieces (fun q => q ≠ b ∧ q ≠ X ∧ q ≠ g) w (.slice oL L.length cL) L

/-- What one reading comes to, of any source, at any number. -/
def readAll (L : List (List UInt8)) (beg : Bool) (en n : Int) (sh : Bool) : List (List UInt8) × Bool × List UInt8 × Int :=
  if n < 1 ∨ sh = true then (L, beg, [], if n < 1 then 1 else 8) else readOf L beg en n.toNat

theorem readOf_flat (L : List (List UInt8)) (beg : Bool) (en : Int) (n : Nat) : L.flatten = (readOf L beg en n).2.2.1 ++ (readOf L beg en n).1.flatten ∧ (readOf L beg en n).1.length ≤ L.length := by
  have main : ∀ (L' : List (List UInt8)) (beg' : Bool), skip L beg = (L', beg') → L.flatten = L'.flatten → L'.length ≤ L.length →
      L.flatten = (readOf L beg en n).2.2.1 ++ (readOf L beg en n).1.flatten ∧ (readOf L beg en n).1.length ≤ L.length := fun L' beg' e1 e2 e3 => by
    unfold readOf
    rw [e1]
    rcases L' with _ | ⟨p, t⟩
    · exact ⟨e2, Nat.zero_le _⟩
    · rcases p with _ | ⟨c, q⟩
      · exact ⟨e2, by simp only [List.length_cons] at e3; show t.length ≤ L.length; omega⟩
      · refine ⟨?_, by simpa using e3⟩
        rw [e2]
        show (c :: q) ++ t.flatten = (c :: q).take n ++ ((c :: q).drop n ++ t.flatten)
        rw [← List.append_assoc, List.take_append_drop]
  rcases L with _ | ⟨p, t⟩
  · exact main [] beg (by cases beg <;> rfl) rfl (Nat.le_refl _)
  · rcases p with _ | ⟨c, q⟩
    · cases beg
      · exact main ([] :: t) false rfl rfl (Nat.le_refl _)
      · exact main t false rfl rfl (by simp)
    · exact main _ beg (by cases beg <;> rfl) rfl (Nat.le_refl _)
theorem readAll_flat (L : List (List UInt8)) (beg : Bool) (en n : Int) (sh : Bool) : L.flatten = (readAll L beg en n sh).2.2.1 ++ (readAll L beg en n sh).1.flatten ∧ (readAll L beg en n sh).1.length ≤ L.length := by
  unfold readAll
  split
  · exact ⟨rfl, Nat.le_refl _⟩
  · exact readOf_flat L beg en n.toNat
theorem mem_flat {L : List (List UInt8)} {p : List UInt8} (h : p ∈ L) : p.length ≤ L.flatten.length := by
  induction L with
  | nil => simp at h
  | cons q t ih =>
    rw [List.flatten_cons, List.length_append]
    rcases List.mem_cons.1 h with rfl | h
    · omega
    · have := ih h; omega

theorem readAny (b : Nat) (M : Nat → Prop) (g : Nat) (L : List (List UInt8)) (beg : Bool) (en n : Int) (rd : Nat) (sh : Bool) (w : World) (hs : Src w b M g L beg en rd sh)
    (hn : n ≤ 9223372036854775807) (hrd : rd + L.flatten.length ≤ 1000) (hL : L.length ≤ 1000) :
    Calls Try.prog 11 #[.pointer (some ⟨b, 0, none⟩), .int .i64 n] w fun e w' => ∃ o c,
      e = .returned (.tuple #[.slice o (readAll L beg en n sh).2.2.1.length c, .int .i64 (readAll L beg en n sh).2.2.2]) ∧
      Src w' b M g (readAll L beg en n sh).1 (readAll L beg en n sh).2.1 en ((rd + (readAll L beg en n sh).2.2.1.length : Nat) : Int) sh ∧
      w'.ownsRow w.heap.size 5 1 (.slice o (readAll L beg en n sh).2.2.1.length c) (readAll L beg en n sh).2.2.1.length ((readAll L beg en n sh).2.2.1.map byteVal) ∧
      Frm (fun q => q ≠ b ∧ q ≠ g) w w' := by
  by_cases h : n < 1 ∨ sh = true
  · refine (read_early b M g L beg en rd n sh w hs h).mono ?_
    rintro e w' ⟨rfl, rfl⟩
    have e : readAll L beg en n sh = (L, beg, [], if n < 1 then 1 else 8) := by unfold readAll; rw [if_pos h]
    rw [e]
    exact ⟨none, 0, rfl, hs, World.ownsRow_nil _ _ _ _, Frm.refl _ _⟩
  · have hn1 : 1 ≤ n := by
      by_cases hh : n < 1
      · exact (h (.inl hh)).elim
      · omega
    have hsh : sh = false := by
      cases sh with
      | false => rfl
      | true => exact (h (.inr rfl)).elim
    subst hsh
    obtain ⟨N, rfl⟩ := Int.eq_ofNat_of_zero_le (show 0 ≤ n by omega)
    have e : readAll L beg en (N : Int) false = readOf L beg en N := by unfold readAll; rw [if_neg h]; rfl
    rw [e]
    refine (read_any b M g L beg en rd N w hs (by omega) (by omega) (by omega) (by omega) hL (fun p hp => by have := mem_flat hp; omega)).mono ?_
    rintro e w' ⟨o, c, rfl, h1, h2, h3⟩
    exact ⟨o, c, rfl, by rw [Int.natCast_add]; exact h1, h2, h3⟩

theorem refAny {ok : Nat → Prop} (oL : Option Addr) (cL : Nat) (L : List (List UInt8)) (beg : Bool) (en n : Int) (rd : Nat) (sh : Bool) (w : World) (hP : Pieces ok w (.slice oL L.length cL) L)
    (h0 : 0 ≤ en) (h2 : en ≤ 2) (hn : n ≤ 9223372036854775807) (hrd : rd + L.flatten.length ≤ 1000) (hL : L.length ≤ 1000) :
    Calls Try.prog 14 #[.agg #[.slice oL L.length cL, .bool beg, .int .i64 en, .int .i64 rd, .bool sh], .int .i64 n] w (RefRead ok w en rd sh (readAll L beg en n sh)) := by
  by_cases h : n < 1 ∨ sh = true
  · have e : readAll L beg en n sh = (L, beg, [], if n < 1 then 1 else 8) := by unfold readAll; rw [if_pos h]
    rw [e]
    exact refRead_early oL cL L beg en rd n sh w hP h
  · have hn1 : 1 ≤ n := by
      by_cases hh : n < 1
      · exact (h (.inl hh)).elim
      · omega
    have hsh : sh = false := by
      cases sh with
      | false => rfl
      | true => exact (h (.inr rfl)).elim
    subst hsh
    obtain ⟨N, rfl⟩ := Int.eq_ofNat_of_zero_le (show 0 ≤ n by omega)
    have e : readAll L beg en (N : Int) false = readOf L beg en N := by unfold readAll; rw [if_neg h]; rfl
    rw [e]
    exact refRead_any oL cL L beg en rd N w hP (by omega) (by omega) h0 h2 (by omega) (by omega) hL (fun p hp => by have := mem_flat hp; omega)

theorem set5t {w W : World} {X : Nat} {u0 u1 u2 u3 u4 : Value} {A : Array Value} {t : TypeId} {o : Obj}
    (hW : ((((((w.setCell ⟨X, 0, none⟩ u0).setCell ⟨X, 1, none⟩ u1).setCell ⟨X, 2, none⟩ u2).setCell ⟨X, 3, none⟩ u3).setCell ⟨X, 4, none⟩ u4).alloc o).alloc (.cells A t) = W) :
    W.heap[w.heap.size + 1]? = some (.cells A t (0, 0)) := by
  subst hW
  have := heap_alloc_new ((((((w.setCell ⟨X, 0, none⟩ u0).setCell ⟨X, 1, none⟩ u1).setCell ⟨X, 2, none⟩ u2).setCell ⟨X, 3, none⟩ u3).setCell ⟨X, 4, none⟩ u4).alloc o) (.cells A t)
  simpa only [World.size_alloc, World.size_setCell] using this
theorem Pas.kept {w w' : World} {b g X : Nat} {M : Nat → Prop} {en : Int} {L : List (List UInt8)} {beg : Bool} {rd : Nat} {sh : Bool} (h : Pas w b M g X en L beg rd sh) (hf : Frm (fun _ => True) w w') : Pas w' b M g X en L beg rd sh := by
  obtain ⟨oL, cL, h1, h2, h3⟩ := h
  exact ⟨oL, cL, h1.kept hf trivial (fun _ _ _ => trivial), frm_block hf h2 trivial, h3.kept hf (fun _ _ _ => trivial)⟩

set_option maxRecDepth 100000 in
set_option maxHeartbeats 8000000 in
theorem wireReads_any (v v2 : Value) (L : List (List UInt8)) (en : Int) (Z : List Int) (w : World) (h : Pieces (fun _ => True) w v L) (hI : Ints (fun _ => True) w v2 Z)
    (hl : ∀ p ∈ L, p.length ≤ 140737488355328) (hZ : ∀ i, i < Z.length → Z.getD i 0 ≤ 9223372036854775807) :
    Calls Try.prog 4 #[v, .int .i64 en, v2] w fun e w' => e = .returned (.bool true) ∧ Below w.heap.size w w' := by
  have hk := h
  obtain ⟨o, cap, rfl, hc1, hc2, _⟩ := hk
  obtain ⟨o2, cap2, rfl, hd1, hd2, h4⟩ := hI.form
  unfold maxLen at hc2 hd2
  have H4 := Lib.hid h4
  have HZ := Lib.hid hZ
  clear h4 hZ hI
  go_enter Try.func4, Try.ntmps4
  go_wp2_with fail
  refine (wakes_any _).mono ?_
  rintro e w1 ⟨rfl, hB1⟩
  have P1 := h.kept (Frm.of_below (ok := fun _ => True) hB1 (fun q hq _ => hq)) (fun _ _ _ => trivial)
  go_wp2_with fail
  refine (great_any _ L w1 P1 hl).mono ?_
  rintro e w2 ⟨B, rfl, hT, hB2⟩
  have P2 := P1.kept (Frm.of_below (ok := fun _ => True) hB2 (fun q hq _ => hq)) (fun _ _ _ => trivial)
  have hB12 := hB1.trans (hB2.mono hB1.size)
  have hz12 := hB12.size
  have P0 := Lib.hid h
  clear P1 h hB1 hB2
  rcases B with _ | _
  · have hT' := hT rfl
    have hLn : L.length ≤ 600 := Nat.le_trans (tot_len L) hT'
    have hLp : ∀ p ∈ L, p.length ≤ 600 := fun p hp => by have := tot_mem hp; omega
    have hLf : L.flatten.length ≤ 600 := Nat.le_trans (flat_tot L) hT'
    have HLP := Lib.hid hLp
    clear hT hT' hl hLp
    by_cases hlen : Z.length ≤ 40
    · by_cases hen : en < 0 ∨ 2 < en
      · have hd : decide (en < 0) = true ∨ decide (en < 0) = false ∧ decide (2 < en) = true := by
          by_cases h : en < 0
          · exact .inl (by simpa using h)
          · exact .inr ⟨by simpa using h, by simp; omega⟩
        have HN := newSource_no _ L en w2 P2 hen
        clear hen P2
        rcases hd with hd | ⟨hd, hd2⟩
        all_goals
          go_wp2_with fail
          refine HN.mono ?_
          rintro e w3 ⟨rfl, hB3⟩
          go_wp2
          go_ret
          exact ⟨rfl, hB12.trans (hB3.mono hz12)⟩
      · have he0 : 0 ≤ en := by omega
        have he2 : en ≤ 2 := by omega
        clear hen
        go_wp2_with fail
        refine (newSource_ok _ L en w2 P2 he0 he2 (by omega) (fun p hp => Nat.le_trans (HLP.out p hp) (by omega))).mono ?_
        rintro e w3 ⟨rfl, ⟨g, ⟨hg1, hg2⟩, hs3⟩, hB3⟩
        have hB13 := hB12.trans (hB3.mono hz12)
        have hz3 := hB3.size
        have hz13 := hB13.size
        have hb3 : w2.heap.size + 1 < w3.heap.size := lt_of_block (hs3.cells).choose_spec.choose_spec
        have HS3 := Lib.hid hs3
        clear P2 hs3
        have hx4 := heap_alloc_new w3 (.cells #[.slice o L.length cap, .bool false, .int .i64 en, .int .i64 0, .bool false] 39)
        have F4 : Frm (fun _ => True) w3 (w3.alloc (.cells #[.slice o L.length cap, .bool false, .int .i64 en, .int .i64 0, .bool false] 39)) := (Frm.refl _ _).alloc _
        have hB14 := hB13.alloc hz13 (.cells #[.slice o L.length cap, .bool false, .int .i64 en, .int .i64 0, .bool false] 39)
        have hP4 : Pieces (fun q => q ≠ w2.heap.size + 1 ∧ q ≠ w3.heap.size ∧ q ≠ g) (w3.alloc (.cells #[.slice o L.length cap, .bool false, .int .i64 en, .int .i64 0, .bool false] 39)) (.slice o L.length cap) L :=
          ((P0.out.mono (ok' := fun q => q < w.heap.size) (fun q hq _ => hq)).kept (Frm.of_below (ok := fun q => q < w.heap.size) hB14 (fun q _ hq => hq)) (fun _ _ hq => hq)).mono (fun q _ hq => ⟨by omega, by omega, by omega⟩)
        have hPas : Pas (w3.alloc (.cells #[.slice o L.length cap, .bool false, .int .i64 en, .int .i64 0, .bool false] 39)) (w2.heap.size + 1) (fun q => w2.heap.size + 2 ≤ q ∧ q < w3.heap.size) g w3.heap.size en L false 0 false :=
          ⟨o, cap, HS3.out.kept F4 trivial (fun _ _ _ => trivial), hx4, hP4⟩
        have HPas := Lib.hid hPas
        clear hPas hP4 hx4 F4
        have hz4 : w3.heap.size < (w3.alloc (.cells #[.slice o L.length cap, .bool false, .int .i64 en, .int .i64 0, .bool false] 39)).heap.size := by rw [World.size_alloc]; omega
        go_wp2_with fail
        generalize w3.alloc (.cells #[.slice o L.length cap, .bool false, .int .i64 en, .int .i64 0, .bool false] 39) = w5 at *
        generalize w3.heap.size = X at *
        go_loopw [55] (fun i wr => ∃ k : Nat, ∃ Lk begk, ∃ rdk : Nat, ∃ shk, i = .int .i64 (k : Nat) ∧ k ≤ Z.length ∧ Pas wr (w2.heap.size + 1) (fun q => w2.heap.size + 2 ≤ q ∧ q < X) g X en Lk begk rdk shk ∧
          rdk + Lk.flatten.length ≤ 600 ∧ Lk.length ≤ 600 ∧ Below w.heap.size w wr ∧ w5.heap.size ≤ wr.heap.size) (fun i _ => Z.length - (intOf i).toNat)
        case atStart => exact ⟨0, L, false, 0, false, rfl, Nat.zero_le _, HPas.out, by omega, hLn, hB14, Nat.le_refl _⟩
        case round =>
          obtain ⟨k, Lk, begk, rdk, shk, rfl, hk, hPk, hfl, hLk, hbr, hzw⟩ := hrel
          by_cases hlt : k < Z.length
          · have hl0 : Z ≠ [] := by intro e; rw [e] at hlt; simp at hlt
            obtain ⟨bz, off, rfl, _, hbs, hc⟩ := H4.out hl0
            have c0 := (hbr.cell (p := ⟨bz, off + k, none⟩) hbs).trans (hc k hlt)
            have hzz := HZ.out k hlt
            generalize Z.getD k 0 = z at *
            clear hc
            obtain ⟨oL, cL, hs, hx, hP⟩ := hPk
            have hXl := lt_of_block hx
            have hRd := readAny _ _ g Lk begk en z rdk shk wr hs hzz (by omega) (by omega)
            have hRf := fun (ok : Nat → Prop) (W : World) (h1 : Pieces ok W (.slice oL Lk.length cL) Lk) => refAny oL cL Lk begk en z rdk shk W h1 he0 he2 hzz (by omega) (by omega)
            have hfa := readAll_flat Lk begk en z shk
            generalize readAll Lk begk en z shk = R at *
            obtain ⟨L', beg', t, er⟩ := R
            dsimp only at hRd hfa
            have HRF := Lib.hid hRf
            have htl : t.length + L'.flatten.length ≤ Lk.flatten.length := by rw [hfa.1, List.length_append]; exact Nat.le_refl _
            have hLl := hfa.2
            have HX := Lib.hid hx
            have HP := Lib.hid hP
            clear hRf hfa hx hP hs
            generalize Lk.flatten.length = fl at *
            generalize hft : L'.flatten.length = fl' at *
            have HFT := Lib.hid hft
            clear hft
            go_wp2_with fail
            refine hRd.mono ?_
            rintro e w7 ⟨o7, c7, rfl, hs7, hown7, hf7⟩
            have hz7 := hf7.size
            have hx7 := frm_block hf7 HX.out ⟨by omega, by omega⟩
            have hP7 := HP.out.kept hf7 (fun q _ hq => ⟨hq.1, hq.2.2⟩)
            obtain ⟨p0, p1, p2, p3, p4, r0, r1, r2, r3, r4⟩ := row5 hx7
            have hRW := HRF.out _ w7 hP7
            have HX7 := Lib.hid hx7
            have HS7 := Lib.hid hs7
            have hX7 : X < w7.heap.size := by omega
            have hby7 := Bytes.of_owns (ok := fun q => wr.heap.size ≤ q) hown7 rfl (fun q hq _ => hq)
            have HB7 := Lib.hid hby7
            clear hx7 hP7 hs7 hown7 hby7 hRd
            go_wp2_with fail
            refine hRW.mono ?_
            rintro e w8 ⟨oL8, cL8, ob, cb, rfl, hP8, hb8, hB8⟩
            have F8 := Frm.of_below (ok := fun _ => True) hB8 (fun q hq _ => hq)
            have hx8 := frm_block F8 HX7.out trivial
            obtain ⟨j0, j1, j2, j3, j4, i0, i1, i2, i3, i4⟩ := row5 hx8
            have hX8 := lt_of_block hx8
            have hz8 := F8.size
            have HX8 := Lib.hid hx8
            have HP8 := Lib.hid hP8
            have HB8 := Lib.hid hb8
            clear p0 p1 p2 p3 p4 r0 r1 r2 r3 r4 hx8 hP8 hb8 hRW
            go_wp2_with fail
            generalize hW : World.alloc (World.alloc (World.setCell (World.setCell (World.setCell (World.setCell (World.setCell w8 _ _) _ _) _ _) _ _) _ _) _) _ = w9
            obtain ⟨hx9, F9⟩ := set5b HX8.out hW
            have ht9 := set5t hW
            have hF79 : Frm (fun q => q ≠ X) w7 w9 := (F8.mono (fun _ _ _ => trivial)).trans F9
            have hs9 := HS7.out.kept hF79 (by omega) (fun q hq _ => by omega)
            have hP9 : Pieces (fun q => q ≠ w2.heap.size + 1 ∧ q ≠ X ∧ q ≠ g) w9 (.slice oL8 L'.length cL8) L' := (HP8.out.kept F9 (fun q _ hq => by
              rcases hq with hq | hq
              · exact hq.2.1
              · omega)).mono (fun q _ hq => by
              rcases hq with hq | hq
              · exact hq
              · exact ⟨by omega, by omega, by omega⟩)
            have hbt := HB8.out.kept F9 (fun q _ hq => hq.2.1)
            have hb79 := HB7.out.kept hF79 (fun q _ hq => by omega)
            have hFr9 : Frm (fun q => q ≠ w2.heap.size + 1 ∧ q ≠ g ∧ q ≠ X) wr w9 := (hf7.mono (fun _ _ h => ⟨h.1, h.2.1⟩)).trans (hF79.mono (fun _ _ h => h.2.2))
            have hbZ := below_frm hbr hbr.size hFr9 (fun q hq => ⟨by omega, by omega, by omega⟩)
            have hzZ := hFr9.size
            have hPZ : Pas w9 (w2.heap.size + 1) (fun q => w2.heap.size + 2 ≤ q ∧ q < X) g X en L' beg' (rdk + t.length) shk := ⟨oL8, cL8, hs9, by rw [Int.natCast_add]; exact hx9, hP9⟩
            rw [Int.natCast_add] at hs9
            have HS9 := Lib.hid hs9
            have HX9 := Lib.hid hx9
            have HT9 := Lib.hid ht9
            have HPZ := Lib.hid hPZ
            have HBT := Lib.hid hbt
            have HB79 := Lib.hid hb79
            clear hs9 hP9 hbt hb79 hx9 ht9 hPZ j0 j1 j2 j3 j4 i0 i1 i2 i3 i4 hW
            generalize hRd : ((rdk : Int) + (t.length : Int)) = Rd at *
            generalize hTb : w8.heap.size + 1 = Tb at *
            have HRd := Lib.hid hRd
            clear hRd
            have hSZ : ∀ w', Frm (fun _ => True) w9 w' → (w'.cell? ⟨Tb, 0, none⟩ = some (.slice ob t.length cb) ∧ w'.cell? ⟨Tb, 2, none⟩ = some (.int .i64 er) ∧ w'.cell? ⟨X, 3, none⟩ = some (.int .i64 Rd)) := fun w' hf => by
              have e := row5 (frm_block hf HX9.out trivial)
              have e2 := row3 (frm_block hf HT9.out trivial)
              exact ⟨e2.1, e2.2.2.1, e.2.2.2.1⟩
            have HSZ := Lib.hid hSZ
            obtain ⟨z0, z2, z3⟩ := hSZ _ (Frm.refl _ _)
            clear hSZ
            go_region_held3 (fun w' => w'.cell? ⟨Tb, 0, none⟩ = some (.slice ob t.length cb) ∧ w'.cell? ⟨Tb, 2, none⟩ = some (.int .i64 er) ∧ w'.cell? ⟨X, 3, none⟩ = some (.int .i64 Rd))
              (first | exact HSZ.out _ FA | exact HSZ.out _ (Frm.refl _ _) | exact HSZ.out _ (Frm.refl _ _).drew)
              (first
                | (go_at_call 12; (with_reducible refine (same_any (ok := fun q => wr.heap.size ≤ q) (ok' := fun q => q ≠ w2.heap.size + 1 ∧ q ≠ X ∧ q ≠ g) (.slice o7 t.length c7) (.slice ob t.length cb) t _ ?_ ?_ (by omega)).mono ?_); exact HB79.out.kept (Frm.refl (fun _ => True) _).drew (fun _ _ _ => trivial); exact HBT.out.kept (Frm.refl (fun _ => True) _).drew (fun _ _ _ => trivial); rintro e w10 ⟨rfl, hB10⟩; have FA : Frm (fun _ => True) w9 w10 := (Frm.of_below hB10 (fun q hq _ => hq)).undrew)
                | (go_at_call 13; (with_reducible refine (reads_any (w2.heap.size + 1) (fun q => w2.heap.size + 2 ≤ q ∧ q < X) g L' beg' en Rd shk _ ?_).mono ?_); exact HS9.out.kept FA trivial (fun _ _ _ => trivial); rintro e w11 ⟨rfl, rfl⟩))
            have hPB := HPZ.out.kept FA
            have hbB := below_frm hbZ hbZ.size FA (fun _ _ => trivial)
            have hzB := FA.size
            have HPB := Lib.hid hPB
            obtain ⟨oLZ, cLZ, hsZ, hxZ, hPPZ⟩ := hPB
            obtain ⟨p0, p1, p2, p3, p4, r0, r1, r2, r3, r4⟩ := row5 hxZ
            have HPPZ := Lib.hid hPPZ
            have HXZ := Lib.hid hxZ
            clear hPPZ hxZ
            have hXz := lt_of_block HXZ.out
            by_cases h30 : k = 30
            · have hd : ((k : Int) == 30) = true := by simp; omega
              go_wp2_with fail
              refine (shut_any (w2.heap.size + 1) _ g L' beg' en _ shk _ hsZ).mono ?_
              rintro e w11 ⟨⟨v, rfl⟩, hs11, hf11⟩
              have hx11 := frm_block hf11 HXZ.out (by omega)
              have hP11 := HPPZ.out.kept hf11 (fun q _ hq => hq.1)
              obtain ⟨p0, p1, p2, p3, p4, r0, r1, r2, r3, r4⟩ := row5 hx11
              have hX11 := lt_of_block hx11
              have F12 : Frm (fun q => q ≠ X) w11 (w11.setCell ⟨X, 4, none⟩ (.bool true)) := (Frm.refl _ _).setCell _ _ _ (fun _ h => h rfl)
              have hP12 : Pas (w11.setCell ⟨X, 4, none⟩ (.bool true)) (w2.heap.size + 1) (fun q => w2.heap.size + 2 ≤ q ∧ q < X) g X en L' beg' (rdk + t.length) true :=
                ⟨oLZ, cLZ, hs11.kept F12 (by omega) (fun q hq _ => by omega), row_setCell' hx11, hP11.kept F12 (fun q _ hq => hq.2.1)⟩
              have hb12 := below_frm (below_frm hbB hbB.size hf11 (fun q hq => by omega)) (Nat.le_trans hbB.size hf11.size) F12 (fun q hq => by omega)
              have hz12' := Nat.le_trans hf11.size F12.size
              have HP12 := Lib.hid hP12
              clear hP12 hP11 hx11 hs11 HPB
              go_wp2_with fail
              go_roundw
              case rel => exact ⟨k + 1, L', beg', rdk + t.length, true, by go_num, by omega, HP12.out, by rw [HFT.out]; omega, by omega, hb12, by omega⟩
              case measure => simp [intOf]; omega
            · have hd : ((k : Int) == 30) = false := by simp; omega
              go_wp2_with fail
              go_roundw
              case rel => exact ⟨k + 1, L', beg', rdk + t.length, shk, by go_num, by omega, HPB.out, by rw [HFT.out]; omega, by omega, hbB, by omega⟩
              case measure => simp [intOf]; omega
          · go_wp2
            go_ret
            exact ⟨rfl, hbr⟩
    · go_wp2
      go_ret
      exact ⟨rfl, hB12⟩
  · go_wp2
    go_ret
    exact ⟨rfl, hB12⟩
end Go.Proofs.Ytellnnkgfjhmpaa
