/-
  The walk of WireOwn.
-/
import Derived.Test.YtellnnkgfjhmpaaCounts
namespace Go.Proofs.Ytellnnkgfjhmpaa
open Go.RowKit

/-- Block g holds at least n bytes, whatever they are; they can be written. -/
def Row8 (w : World) (g n : Nat) : Prop := ∃ cs, w.heap[g]? = some (.cells cs 5 (0, 0)) ∧ ∀ j, j < n → ∃ x : Int, cs[j]? = some (.int .u8 x)
theorem Row8.kept {w w' : World} {g n : Nat} {ok : Nat → Prop} (h : Row8 w g n) (hf : Frm ok w w') (ho : ok g) : Row8 w' g n := by
  obtain ⟨cs, h1, h2⟩ := h
  exact ⟨cs, frm_block hf h1 ho, h2⟩
theorem Row8.cell {w : World} {g n j : Nat} (h : Row8 w g n) (hj : j < n) : (∃ x : Int, w.cell? ⟨g, j, none⟩ = some (.int .u8 x)) ∧ w.frozen? ⟨g, j, none⟩ = false := by
  obtain ⟨cs, h1, h2⟩ := h
  obtain ⟨x, hx⟩ := h2 j hj
  exact ⟨⟨x, by simp [World.cell?, h1, hx]⟩, by simp [World.frozen?, h1]⟩
theorem Row8.set {w : World} {g n j : Nat} (h : Row8 w g n) (hj : j < n) (x : Int) : Row8 (w.setCell ⟨g, j, none⟩ (.int .u8 x)) g n := by
  obtain ⟨cs, h1, h2⟩ := h
  refine ⟨_, row_setCell' h1, fun i hi => ?_⟩
  rw [Array.getElem?_setIfInBounds]
  by_cases e : j = i
  · subst e
    obtain ⟨y, hy⟩ := h2 j hj
    have := (Array.getElem?_eq_some_iff.1 hy).1
    exact ⟨x, by simp [this]⟩
  · rw [if_neg e]
    exact h2 i hi
theorem writeOf_own (l : List UInt8) (hl : l ≠ []) : writeOf [(l.length : Int)] 0 [] false false l = ([], l, false, l.length, 0) := by
  have h1 : takeN [(l.length : Int)] 0 l.length = l.length := by simp [takeN]
  simp [writeOf, hl, h1, goneOf]
theorem readOf_own (l : List UInt8) (hl : l ≠ []) : readOf [l] false 0 l.length = ([[]], true, l, 0) := by
  have h : skip [l] false = ([l], false) := by cases l <;> rfl
  unfold readOf
  rw [h]
  cases l with
  | nil => exact (hl rfl).elim
  | cons a t => simp
theorem Row8.of_owns {w : World} {B n : Nat} {o : Option Addr} {c : Nat} {l : List UInt8} (h : w.ownsRow B 5 1 (.slice o n c) n (l.map byteVal)) (hn : 0 < n) (hl : n = l.length) : ∃ g, o = some ⟨g, 0, none⟩ ∧ B ≤ g ∧ g < w.heap.size ∧ Row8 w g n := by
  rcases h.2 with ⟨_, h0⟩ | ⟨g, cap, cur, e, h3, h4, h5, h6, h7, h8⟩
  · omega
  · cases e
    refine ⟨g, rfl, h3, lt_of_block h4, cur, h4, fun j hj => ?_⟩
    have e : (cur.toList.take (n * 1))[j]? = (l.map byteVal)[j]? := by rw [h8]
    rw [List.getElem?_take, if_pos (by omega)] at e
    have hj' : j < l.length := by omega
    exact ⟨((l[j]).toNat : Int), by simpa [hj', byteVal] using e⟩

theorem Frm.trans_low {ok : Nat → Prop} {w w1 w2 : World} (h : Frm ok w w1) (k : Frm (fun q => q < w.heap.size) w1 w2) : Frm ok w w2 :=
  ⟨k.os.trans h.os, k.tape.trans h.tape, k.output.trans h.output, Nat.le_trans h.size k.size, fun i hi ho => (k.block i (Nat.lt_of_lt_of_le hi h.size) hi).trans (h.block i hi ho)⟩

set_option maxRecDepth 100000 in
set_option maxHeartbeats 8000000 in
theorem wireOwn_any (v : Value) (l : List UInt8) (w : World) (h : Bytes (fun _ => True) w v l) (hlb : l.length ≤ 140737488355328) :
    Calls Try.prog 5 #[v] w fun e w' => e = .returned (.bool true) ∧ Below w.heap.size w w' := by
  obtain ⟨o, cap, rfl, hc1, hc2, _⟩ := h.form
  unfold maxLen at hc2
  go_enter Try.func5, Try.ntmps5
  go_wp2_with fail
  refine (wakes_any _).mono ?_
  rintro e w1 ⟨rfl, hB1⟩
  have h1 := (h.mono (ok' := fun q => q < w.heap.size) (fun q hq _ => hq)).kept (Frm.of_below (ok := fun q => q < w.heap.size) hB1 (fun q _ hq => hq)) (fun _ _ hq => hq)
  have hz1 := hB1.size
  have H0 := Lib.hid (h.mono (ok' := fun q => q < w.heap.size) (fun q hq _ => hq))
  clear h
  by_cases hl : l.length ≤ 300
  · by_cases hl0 : l.length = 0
    · go_wp2
      go_ret
      exact ⟨rfl, hB1⟩
    · have hlit : (w1.alloc (.cells #[] 5)).ownsRow w1.heap.size 5 1 (.slice (some ⟨w1.heap.size, 0, none⟩) 0 0) 0 [] :=
        World.ownsRow_lit w1 #[] 0 (Nat.le_refl _) (by unfold maxLen; omega) rfl
      have hba := h1.kept ((Frm.refl (fun q => q < w1.heap.size) w1).alloc (.cells #[] 5)) (fun q hq _ => hq)
      have HLIT := Lib.hid hlit
      have HBA := Lib.hid hba
      have H1 := Lib.hid h1
      clear hlit hba h1
      have hz : ((l.length : Int) == 0) = false := by simpa using hl0
      have hd3 : decide (300 < (l.length : Int)) = false := by simp; omega
      go_wp2_with (at_builtin; refine wpList_append_bytes_at (ok := fun q => q < w.heap.size) rfl _ _ rfl w1.heap.size _ 0 [] rfl HLIT.out _ l rfl HBA.out (by omega) (by simp) ?_; intro oi ci w2 hown2 hgrow2 hat2)
      have hown2' : w2.ownsRow w1.heap.size 5 1 (.slice oi l.length ci) l.length (l.map byteVal) := by simpa using hown2
      have F2 : Frm (fun q => q < w1.heap.size) w1 w2 := ((Frm.refl _ _).alloc _).grown hgrow2 (fun q hq _ hlt => by
        have e : some w1.heap.size = some q := hq
        cases e
        omega)
      have hB2 := below_frm hB1 hz1 F2 (fun q hq => by omega)
      obtain ⟨bi, rfl, hbi1, hbi2, hrow2⟩ := Row8.of_owns hown2' (by omega) rfl
      have hz2 := F2.size
      have hby2 : Bytes (fun q => q < w2.heap.size) w2 (.slice (some ⟨bi, 0, none⟩) l.length ci) l := Bytes.of_owns hown2' rfl (fun q _ hq => hq)
      have hciL : l.length ≤ ci ∧ ci ≤ maxLen := by
        obtain ⟨_, _, e, q1, q2, _⟩ := hby2.form
        cases e
        exact ⟨q1, q2⟩
      obtain ⟨hci1, hci2⟩ := hciL
      unfold maxLen at hci2
      clear hown2 hown2' hgrow2 hat2
      -- the pieces
      have hr3 := heap_alloc_new w2 (.cells #[.slice (some ⟨bi, 0, none⟩) l.length ci] 31)
      have hP3 : Pieces (fun _ => True) (w2.alloc (.cells #[.slice (some ⟨bi, 0, none⟩) l.length ci] 31)) (.slice (some ⟨w2.heap.size, 0, none⟩) 1 1) [l] :=
        ⟨_, 1, rfl, Nat.le_refl _, by unfold maxLen; omega, fun _ => ⟨_, 0, rfl, trivial, lt_of_block hr3, fun i hi => by
          have hi0 : i = 0 := by simpa using hi
          subst hi0
          exact ⟨_, (cell_of_row _ _ 0 _ _ _ hr3).trans rfl, (hby2.mono (fun _ _ _ => trivial)).kept (Frm.of_below (ok := fun _ => True) ((Below.refl w2.heap.size w2).alloc (Nat.le_refl _) _) (fun q hq _ => hq)) (fun _ _ _ => trivial)⟩⟩⟩
      have F3 : Frm (fun _ => True) w2 (w2.alloc (.cells #[.slice (some ⟨bi, 0, none⟩) l.length ci] 31)) := (Frm.refl _ _).alloc _
      have hz3 : (w2.alloc (.cells #[.slice (some ⟨bi, 0, none⟩) l.length ci] 31)).heap.size = w2.heap.size + 1 := World.size_alloc _ _
      generalize w2.alloc (.cells #[.slice (some ⟨bi, 0, none⟩) l.length ci] 31) = w3 at *
      have hz3' : w2.heap.size < w3.heap.size := by omega
      clear hz3
      have HS := newSource_ok _ [l] 0 w3 hP3 (by decide) (by decide) (by simp) (by simp; omega)
      refine HS.mono ?_
      rintro e w4 ⟨rfl, ⟨g, ⟨hg1, hg2⟩, hs4⟩, hB4⟩
      have hz4 := hB4.size
      clear HS hP3
      have hr5 := heap_alloc_new w4 (.cells #[.int .i64 (l.length : Int)] 3)
      have hI5 : Ints (fun _ => True) (w4.alloc (.cells #[.int .i64 (l.length : Int)] 3)) (.slice (some ⟨w4.heap.size, 0, none⟩) 1 1) [(l.length : Int)] :=
        .inr ⟨_, 1, rfl, Nat.le_refl _, by unfold maxLen; omega, fun _ => ⟨rfl, trivial, lt_of_block hr5, fun i hi => by
          have hi0 : i = 0 := by simpa using hi
          subst hi0
          exact (cell_of_row _ _ 0 _ _ _ hr5).trans rfl⟩⟩
      have F5 : Frm (fun _ => True) w4 (w4.alloc (.cells #[.int .i64 (l.length : Int)] 3)) := (Frm.refl _ _).alloc _
      have hz5 : w4.heap.size < (w4.alloc (.cells #[.int .i64 (l.length : Int)] 3)).heap.size := by rw [World.size_alloc]; omega
      have HS4 := Lib.hid hs4
      clear hs4
      go_wp2_with fail
      generalize w4.alloc (.cells #[.int .i64 (l.length : Int)] 3) = w5 at *
      refine (newDrain_ok _ [(l.length : Int)] 0 w5 hI5 (by simp) (by simp [anyNeg]) (by decide) (by decide)).mono ?_
      rintro e w6 ⟨b2, rfl, ⟨hb1, hb2⟩, hd6, hB6⟩
      have hz6 := hB6.size
      have F4 : Frm (fun q => q < w3.heap.size) w3 w4 := Frm.of_below hB4 (fun q _ hq => hq)
      have F6 : Frm (fun q => q < w5.heap.size) w5 w6 := Frm.of_below hB6 (fun q _ hq => hq)
      have hl1 : l ≠ [] := by intro e; rw [e] at hl0; exact hl0 rfl
      have F36 : Frm (fun q => q < w3.heap.size) w3 w6 := (F4.trans (F5.mono (fun _ _ _ => trivial))).trans (F6.mono (fun q _ hq => by omega))
      have hby6 : Bytes (fun q => q = bi) w6 (.slice (some ⟨bi, 0, none⟩) l.length ci) l := by
        have h2 : Bytes (fun q => q = bi) w2 (.slice (some ⟨bi, 0, none⟩) l.length ci) l := by
          rcases hby2 with ⟨e, _⟩ | ⟨a, c, e, r1, r2, r3⟩
          · cases e
          · cases e
            exact .inr ⟨_, _, rfl, r1, r2, fun hne => ⟨(r3 hne).1, rfl, (r3 hne).2.2.1, (r3 hne).2.2.2⟩⟩
        exact (h2.kept F3 (fun _ _ _ => trivial)).kept F36 (fun q hq _ => hq)
      have hWr := write_any b2 w6.heap.size _ _ [(l.length : Int)] 0 [] false false _ l w6 hd6 (by simp [anyNeg]) (by decide) (by decide) hby6 (by omega) (by simp) (fun h => h rfl) (fun q hq => by omega) (Nat.le_refl _)
      rw [writeOf_own l hl1] at hWr
      have HBY := Lib.hid hby6
      clear hd6 hI5 hby2 hby6
      go_wp2_with fail
      refine hWr.mono ?_
      rintro e w7 ⟨gv, rfl, hd7, hat7, hf7⟩
      go_wp2_with fail
      have hgv : ∀ q, gv.ownBlock = some q → w6.heap.size ≤ q ∧ q < w7.heap.size := by
        obtain ⟨_, _, _, h3, _⟩ := hd7
        exact fun q hq => h3.lt q hq
      have hz7 := hf7.size
      have F7 : Frm (fun q => q < w5.heap.size) w6 w7 := hf7.mono (fun q _ hq => ⟨by omega, by simp [Value.ownBlock]⟩)
      have hrow7 : Row8 w7 bi l.length := ((hrow2.kept F3 trivial).kept F36 (by omega)).kept F7 (by omega)
      have hp7 : w7.heap[w2.heap.size]? = some (.cells #[.slice (some ⟨bi, 0, none⟩) l.length ci] 31 (0, 0)) := frm_block F7 (frm_block F36 hr3 hz3') (by omega)
      have ht7 : w7.heap[w4.heap.size]? = some (.cells #[.int .i64 (l.length : Int)] 3 (0, 0)) := frm_block F7 (frm_block F6 hr5 hz5) hz5
      have F47 : Frm (fun q => q < w5.heap.size) w4 w7 := ((F5.mono (fun _ _ _ => trivial)).trans F6).trans F7
      have hB7 : Below w.heap.size w w7 := below_frm (below_frm (below_frm hB2 (by omega) F3 (fun _ _ => trivial)) (by omega) F36 (fun q hq => by omega)) (by omega) F7 (fun q hq => by omega)
      have HS7 := Lib.hid (HS4.out.kept F47 (by omega) (fun q hq _ => by have := hq.2; omega))
      have HD7 := Lib.hid hd7
      have HP7 := Lib.hid hp7
      have HT7 := Lib.hid ht7
      have hn1 : 0 < l.length := by omega
      clear hd7 hp7 ht7 hr3 hr5 hWr hrow2 F36 F6 F7 F5 F4 F47 F3 hz hd3
      generalize hnn : l.length = n at *
      go_loopw [56] (fun i wr => ∃ k : Nat, i = .int .i64 k ∧ k ≤ n ∧ Row8 wr bi n ∧ Frm (fun q => q ≠ bi) w7 wr) (fun i _ => n - (intOf i).toNat)
      case atStart => exact ⟨0, rfl, Nat.zero_le _, hrow7, Frm.refl _ _⟩
      case round =>
        obtain ⟨k, rfl, hk, hr, hf⟩ := hrel
        by_cases hlt : k < n
        · obtain ⟨⟨x, hc⟩, hfz⟩ := hr.cell hlt
          have hset := hr.set hlt
          have HSET := Lib.hid hset
          clear hset
          go_wp2
          go_roundw
          case rel => exact ⟨k + 1, by go_num, by omega, HSET.out _, hf.setCell _ _ _ (fun _ h => h rfl)⟩
          case measure => simp [intOf]; omega
        · obtain rfl : n = k := by omega
          have hp8 := frm_block hf HP7.out (by omega)
          have ht8 := frm_block hf HT7.out (by omega)
          have p1 : wr.cell? ⟨w2.heap.size, 0, none⟩ = some (.slice (some ⟨bi, 0, none⟩) n ci) := (cell_of_row _ _ 0 _ _ _ hp8).trans rfl
          have p2 : wr.frozen? ⟨w2.heap.size, 0, none⟩ = false := by unfold World.frozen?; rw [hp8]; rfl
          have t1 : wr.cell? ⟨w4.heap.size, 0, none⟩ = some (.int .i64 (n : Int)) := (cell_of_row _ _ 0 _ _ _ ht8).trans rfl
          have t2 : wr.frozen? ⟨w4.heap.size, 0, none⟩ = false := by unfold World.frozen?; rw [ht8]; rfl
          have hne1 : w2.heap.size ≠ w4.heap.size := by omega
          have hne2 : w4.heap.size ≠ w2.heap.size := by omega
          have F9 : Frm (fun q => q ≠ bi ∧ q ≠ w2.heap.size ∧ q ≠ w4.heap.size) w7 ((wr.setCell ⟨w2.heap.size, 0, none⟩ (.slice none 0 0)).setCell ⟨w4.heap.size, 0, none⟩ (.int .i64 0)) :=
            ((hf.mono (fun _ _ h => h.1)).setCell _ _ _ (fun _ h => h.2.1 rfl)).setCell _ _ _ (fun _ h => h.2.2 rfl)
          have hd9 := HD7.out.kept F9 ⟨by omega, by omega, by omega⟩ (fun q hq _ => ⟨by omega, by omega, by omega⟩) (fun q hq => by have := hgv q hq; exact ⟨by omega, by omega, by omega⟩)
          have hG9 := got_any _ _ _ _ _ _ _ _ _ _ hd9 (by omega)
          have hz9 := F9.size
          clear hp8 ht8 hf hr
          go_wp2_with fail
          generalize (wr.setCell ⟨w2.heap.size, 0, none⟩ (.slice none 0 0)).setCell ⟨w4.heap.size, 0, none⟩ (.int .i64 0) = w9 at *
          clear p1 p2 t1 t2
          refine hG9.mono ?_
          rintro e w10 ⟨o10, c10, rfl, hown10, hB10⟩
          rw [hnn] at hown10
          obtain ⟨bg, rfl, hbg1, hbg2, hrow10⟩ := Row8.of_owns hown10 (by omega) hnn.symm
          have HD9 := Lib.hid hd9
          clear hG9 hd9 hown10
          go_wp2_with fail
          go_loopw [74] (fun i wr => ∃ k : Nat, i = .int .i64 k ∧ k ≤ n ∧ Row8 wr bg n ∧ Frm (fun q => q ≠ bg) w10 wr) (fun i _ => n - (intOf i).toNat)
          case atStart => exact ⟨0, rfl, Nat.zero_le _, hrow10, Frm.refl _ _⟩
          case round =>
            obtain ⟨k, rfl, hk, hr, hf⟩ := hrel
            by_cases hlt : k < n
            · obtain ⟨⟨x, hc⟩, hfz⟩ := hr.cell hlt
              have hset := hr.set hlt
              have HSET := Lib.hid hset
              clear hset
              go_wp2
              go_roundw
              case rel => exact ⟨k + 1, by go_num, by omega, HSET.out _, hf.setCell _ _ _ (fun _ h => h rfl)⟩
              case measure => simp [intOf]; omega
            · obtain rfl : n = k := by omega
              have F911 : Frm (fun q => q < w9.heap.size) w9 wr := (Frm.of_below (ok := fun q => q < w9.heap.size) hB10 (fun q _ hq => hq)).trans (hf.mono (fun q _ hq => by omega))
              have F711 : Frm (fun q => q ≠ bi ∧ q ≠ w2.heap.size ∧ q ≠ w4.heap.size) w7 wr := F9.trans_low (F911.mono (fun q _ hq => by omega))
              have hz11 := F911.size
              have hs11 := HS7.out.kept F711 ⟨by omega, by omega, by omega⟩ (fun q hq _ => by have h1 := hq.1; have h2 := hq.2; exact ⟨by omega, by omega, by omega⟩)
              have hd11 := HD7.out.kept F711 ⟨by omega, by omega, by omega⟩ (fun q hq _ => ⟨by omega, by omega, by omega⟩) (fun q hq => by have := hgv q hq; exact ⟨by omega, by omega, by omega⟩)
              have hB11 := below_frm hB7 hB7.size F711 (fun q hq => ⟨by omega, by omega, by omega⟩)
              have hR := read_any _ _ g [l] false 0 0 n wr hs11 (by omega) (by omega) (by decide) (by decide) (by simp) (by simp; omega)
              rw [show readOf [l] false 0 n = ([[]], true, l, 0) by rw [← hnn]; exact readOf_own l hl1] at hR
              dsimp only at hR
              rw [hnn] at hR
              have HD11 := Lib.hid hd11
              clear hd11 hs11 hf hr
              go_wp2_with fail
              refine hR.mono ?_
              rintro e w12 ⟨o12, c12, rfl, _, hown12, hf12⟩
              have hz12 := hf12.size
              have hB12 := below_frm hB11 hB11.size hf12 (fun q hq => ⟨by omega, by omega⟩)
              have hd12 := HD11.out.kept hf12 ⟨by omega, by omega⟩ (fun q hq _ => ⟨by omega, by omega⟩) (fun q hq => by have := hgv q hq; exact ⟨by omega, by omega⟩)
              have hx12 := Bytes.of_owns (ok := fun _ => True) hown12 hnn.symm (fun _ _ _ => trivial)
              have ha12 := H0.out.kept (Frm.of_below (ok := fun q => q < w.heap.size) hB12 (fun q _ hq => hq)) (fun _ _ hq => hq)
              have HD12 := Lib.hid hd12
              clear hd12 hown12 hR
              go_wp2_with fail
              refine (same_any _ _ l w12 hx12 ha12 (by omega)).mono ?_
              rintro e w13 ⟨rfl, hB13⟩
              have F13 := Frm.of_below (ok := fun _ => True) hB13 (fun q hq _ => hq)
              have hd13 := HD12.out.kept F13 trivial (fun _ _ _ => trivial) (fun _ _ => trivial)
              have hB13' := hB12.trans (hB13.mono hB12.size)
              have ha13 := ha12.kept F13 (fun _ _ _ => trivial)
              have hG13 := got_any _ _ _ _ _ _ _ _ _ _ hd13 (by omega)
              clear hd13 hx12
              go_wp2_with fail
              refine hG13.mono ?_
              rintro e w14 ⟨o14, c14, rfl, hown14, hB14⟩
              have F14 := Frm.of_below (ok := fun _ => True) hB14 (fun q hq _ => hq)
              have ha14 := ha13.kept F14 (fun _ _ _ => trivial)
              have hx14 := Bytes.of_owns (ok := fun _ => True) hown14 rfl (fun _ _ _ => trivial)
              have hB14' := hB13'.trans (hB14.mono hB13'.size)
              rw [hnn] at hx14
              clear hown14 hG13
              go_wp2_with fail
              refine (same_any _ _ l w14 hx14 ha14 (by omega)).mono ?_
              rintro e w15 ⟨rfl, hB15⟩
              go_wp2
              go_ret
              exact ⟨rfl, hB14'.trans (hB15.mono hB14'.size)⟩
  · go_wp2
    go_ret
    exact ⟨rfl, hB1⟩
end Go.Proofs.Ytellnnkgfjhmpaa
