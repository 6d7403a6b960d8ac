/-
  CreditActs: whatever is called, one call behind the other, of a credit of any size: each call tells what the document says; all units together stay as many: true for every n and l; no condition.
-/
import Derived.Test.YtaffepcpdmhjlaaD
import Derived.Test.YtaffepcpdmhjlaaK
import Derived.Deep.RegionHeld3
import Derived.Deep.DeepCutAuto
import Derived.Deep.CutBlock
import Derived.Lib.Hide
namespace Go.Proofs.Ytaffepcpdmhjlaa
open Go.ChangeShapes Go.WideShapes Go.ChangeAt Go.RowKit

/-- The reference's credit: block b. -/
def Xr (w : World) (b : Nat) (o t h g : Int) : Prop := w.heap[b]? = some (.cells #[.int .i64 o, .int .i64 t, .int .i64 h, .int .i64 g] 38 (0, 0))

theorem Chg.undrew {b : Nat} {w w' : World} (h : Chg b w.drew w') : Chg b w w' := ⟨h.os, h.tape, h.output, h.size, h.block⟩
theorem Xr.cells {w : World} {b : Nat} {o t h g : Int} (c : Xr w b o t h g) :
    w.cell? ⟨b, 0, none⟩ = some (.int .i64 o) ∧ w.cell? ⟨b, 1, none⟩ = some (.int .i64 t) ∧ w.cell? ⟨b, 2, none⟩ = some (.int .i64 h) ∧ w.cell? ⟨b, 3, none⟩ = some (.int .i64 g) := by
  unfold Xr at c
  simp [World.cell?, c]
theorem Xr.free {w : World} {b : Nat} {o t h g : Int} (c : Xr w b o t h g) :
    w.frozen? ⟨b, 0, none⟩ = false ∧ w.frozen? ⟨b, 1, none⟩ = false ∧ w.frozen? ⟨b, 2, none⟩ = false ∧ w.frozen? ⟨b, 3, none⟩ = false := by
  unfold Xr at c
  simp [World.frozen?, c]

set_option maxRecDepth 100000 in
set_option maxHeartbeats 4000000 in
theorem acts_walk (n : Int) (l : List (Int × Int)) (a : Option Addr) (bl off cap : Nat) (hn0 : 1 ≤ n) (hn1 : n ≤ 65536) (w : World) (hlen : l.length ≤ 50)
    (ha : l ≠ [] → a = some ⟨bl, off, none⟩) (hbl : l ≠ [] → bl < w.heap.size)
    (hcell : ∀ i, i < l.length → w.cell? ⟨bl, off + i * 2, none⟩ = some (.int .u8 (l.getD i (0, 0)).1) ∧ w.cell? ⟨bl, off + i * 2 + 1, none⟩ = some (.int .i64 (l.getD i (0, 0)).2))
    (hwf : ∀ i, i < l.length → 0 ≤ (l.getD i (0, 0)).1 ∧ (l.getD i (0, 0)).1 ≤ 255) :
    Calls Try.prog 5 #[.int .i64 n, .slice a l.length cap] w fun e w' => e = .returned (.bool true) ∧ Below w.heap.size w w' := by
  go_enter Try.func5, Try.ntmps5
  go_wp2_with fail
  refine (wakes_any w).mono ?_
  rintro e W0 ⟨rfl, hB0⟩
  have hsz0 := hB0.size
  go_wp2_with fail
  refine (new_cr n W0 (by omega) (by omega)).mono ?_
  rintro e W1 ⟨rfl, c, hB1, hlt1⟩
  have hBB := hB0.trans (hB1.mono hsz0)
  generalize hb : W0.heap.size = B at *
  clear hb hB0 hB1
  have hcW : ∀ i, i < l.length → W1.cell? ⟨bl, off + i * 2, none⟩ = some (.int .u8 (l.getD i (0, 0)).1) ∧ W1.cell? ⟨bl, off + i * 2 + 1, none⟩ = some (.int .i64 (l.getD i (0, 0)).2) := fun i hi => by
    have : l ≠ [] := by intro e; rw [e] at hi; simp at hi
    rw [hBB.cell (p := ⟨bl, off + i * 2, none⟩) (hbl this), hBB.cell (p := ⟨bl, off + i * 2 + 1, none⟩) (hbl this)]
    exact hcell i hi
  have hblB : l ≠ [] → bl < B := fun h => by have := hbl h; omega
  clear hcell
  go_wp2
  have hc2 : Cr (W1.alloc (.cells #[.int .i64 n, .int .i64 0, .int .i64 0, .int .i64 0] 38)) B n 0 0 0 := (Below.heap_alloc _ _ _ hlt1).trans c
  have hx2 : Xr (W1.alloc (.cells #[.int .i64 n, .int .i64 0, .int .i64 0, .int .i64 0] 38)) W1.heap.size n 0 0 0 := by unfold Xr World.alloc; simp
  have hs2 : W1.heap.size < (W1.alloc (.cells #[.int .i64 n, .int .i64 0, .int .i64 0, .int .i64 0] 38)).heap.size := by simp
  have hb2 : Below B W1 (W1.alloc (.cells #[.int .i64 n, .int .i64 0, .int .i64 0, .int .i64 0] 38)) := (Below.refl _ _).alloc (by omega) _
  generalize hW : W1.alloc (.cells #[.int .i64 n, .int .i64 0, .int .i64 0, .int .i64 0] 38) = W2 at *
  clear hW
  have hBB2 : Below w.heap.size w W2 := hBB.trans (hb2.mono hsz0)
  have hcW2 : ∀ i, i < l.length → W2.cell? ⟨bl, off + i * 2, none⟩ = some (.int .u8 (l.getD i (0, 0)).1) ∧ W2.cell? ⟨bl, off + i * 2 + 1, none⟩ = some (.int .i64 (l.getD i (0, 0)).2) := fun i hi => by
    have : l ≠ [] := by intro e; rw [e] at hi; simp at hi
    rw [hb2.cell (p := ⟨bl, off + i * 2, none⟩) (hblB this), hb2.cell (p := ⟨bl, off + i * 2 + 1, none⟩) (hblB this)]
    exact hcW i hi
  generalize hX : W1.heap.size = X at *
  clear hX hcW hb2 hBB c
  go_loopw [44] (fun i wr => ∃ (k : Nat) (o t h g : Int), i = .int .i64 k ∧ k ≤ l.length ∧ 0 ≤ o ∧ 0 ≤ t ∧ 0 ≤ h ∧ o + t + h = n ∧ 0 ≤ g ∧ g ≤ 65536 * k ∧ Cr wr B o t h g ∧ Xr wr X o t h g ∧ X < wr.heap.size ∧ Below B W2 wr)
    (fun i _ => l.length - (intOf i).toNat)
  case atStart => exact ⟨0, n, 0, 0, 0, rfl, Nat.zero_le _, by omega, by omega, by omega, by omega, by omega, by omega, hc2, hx2, hs2, Below.refl _ _⟩
  case round =>
    obtain ⟨k, o, t, h, g, rfl, hk, ho, ht, hh, hN, hg0, hg1, cr, xr, hXs, hbe⟩ := hrel
    by_cases hlt : k < l.length
    · have hz : l ≠ [] := by intro e; rw [e] at hlt; simp at hlt
      obtain ⟨hce0, hce1⟩ := hcW2 k hlt
      have hc0 : wr.cell? ⟨bl, off + k * 2, none⟩ = some (.int .u8 (l.getD k (0, 0)).1) := by rw [hbe.cell (p := ⟨bl, off + k * 2, none⟩) (hblB hz)]; exact hce0
      have hc1 : wr.cell? ⟨bl, off + k * 2 + 1, none⟩ = some (.int .i64 (l.getD k (0, 0)).2) := by rw [hbe.cell (p := ⟨bl, off + k * 2 + 1, none⟩) (hblB hz)]; exact hce1
      have hw := hwf k hlt
      obtain rfl := ha hz
      clear hce0 hce1 hcW2 hwf
      generalize (l.getD k (0, 0)).1 = kk at *
      generalize (l.getD k (0, 0)).2 = nn at *
      obtain ⟨hx0, hx1, hx3, hx4⟩ := xr.cells
      have hbX : bl < wr.heap.size := by have := hblB hz; have := hbe.size; omega
      obtain ⟨o', t', h', g', r, hact⟩ := act_is (kk % 4) nn o t h g (by omega)
      obtain ⟨ho', ht', hh', hN', hg0', hg1'⟩ := act_keeps hact ho ht hh rfl hg0
      go_wp2_with fail
      refine (ref_do (kk % 4) nn o t h g o' t' h' g' r _ hact ho ht hh (by omega) hg0 (by omega)).mono ?_
      rintro e W3 ⟨rfl, hb3⟩
      have c3 : Cr W3 B o t h g := (hb3.block B (by simp; omega)).trans ((Below.heap_alloc _ _ _ (by omega)).trans cr)
      have x3 : Xr W3 X o t h g := (hb3.block X (by simp; omega)).trans ((Below.heap_alloc _ _ _ (by omega)).trans xr)
      have o3 : W3.heap[wr.heap.size]? = some (.cells #[.int .u8 kk, .int .i64 nn] 40 (0, 0)) := (hb3.block _ (by simp)).trans (by unfold World.alloc; simp)
      have hb3' : Below B W2 W3 := hbe.trans (((Below.refl _ _).alloc (by omega) _).trans (hb3.mono (by simp; omega)))
      have hs3 : wr.heap.size < W3.heap.size := by have := hb3.size; simp at this; omega
      generalize hO : wr.heap.size = O at *
      clear hb3 hx0 hx1 hx3 hx4 cr xr hc0 hc1 hO hbe
      obtain ⟨hx0, hx1, hx3, hx4⟩ := x3.cells
      obtain ⟨hf0, hf1, hf3, hf4⟩ := x3.free
      have hX3 : X < W3.heap.size := by omega
      go_wp2_with fail
      obtain ⟨W4, hW4⟩ : ∃ W4, W4 = ((((W3.setCell ⟨X, 0, none⟩ (.int .i64 o')).setCell ⟨X, 1, none⟩ (.int .i64 t')).setCell ⟨X, 2, none⟩ (.int .i64 h')).setCell ⟨X, 3, none⟩ (.int .i64 g')).alloc (.cells #[.int .i64 o', .int .i64 t', .int .i64 h', .int .i64 g'] 38) := ⟨_, rfl⟩
      have hs4 : W3.heap.size < W4.heap.size := by rw [hW4]; simp
      have hblk : ∀ j, j < W3.heap.size → j ≠ X → W4.heap[j]? = W3.heap[j]? := fun j hj hn => by
        rw [hW4, Below.heap_alloc _ _ _ (by simpa using hj), Below.heap_setCell _ _ _ _ hn, Below.heap_setCell _ _ _ _ hn, Below.heap_setCell _ _ _ _ hn, Below.heap_setCell _ _ _ _ hn]
      have c4 : Cr W4 B o t h g := (hblk B (by omega) (by omega)).trans c3
      have x4 : Xr W4 X o' t' h' g' := by
        have q := row_setCell (i := 3) (v := .int .i64 g') (row_setCell (i := 2) (v := .int .i64 h') (row_setCell (i := 1) (v := .int .i64 t') (row_setCell (i := 0) (v := .int .i64 o') x3)))
        unfold Xr
        rw [hW4, Below.heap_alloc _ _ _ (by simpa using hX3)]
        exact q
      have o4 : W4.heap[O]? = some (.cells #[.int .u8 kk, .int .i64 nn] 40 (0, 0)) := (hblk O hs3 (by omega)).trans o3
      have hb4 : Below B W2 W4 := hb3'.trans ⟨by rw [hW4]; rfl, by rw [hW4]; rfl, by rw [hW4]; rfl, by omega, fun j hj => hblk j (by have := hb3'.size; omega) (by omega)⟩
      rw [← hW4]
      clear hW4 hblk hx0 hx1 hx3 hx4 hf0 hf1 hf3 hf4
      have hS : ∀ w', Chg B W4 w' → (w'.cell? ⟨O, 0, none⟩ = some (.int .u8 kk) ∧ w'.cell? ⟨O, 1, none⟩ = some (.int .i64 nn) ∧ w'.cell? ⟨X, 0, none⟩ = some (.int .i64 o') ∧ w'.cell? ⟨X, 1, none⟩ = some (.int .i64 t') ∧ w'.cell? ⟨X, 2, none⟩ = some (.int .i64 h') ∧ w'.cell? ⟨X, 3, none⟩ = some (.int .i64 g')) := fun w' hch => by
        have xo : Xr w' X o' t' h' g' := (hch.block X (by omega) (by omega)).trans x4
        have oo := (hch.block O (by omega) (by omega)).trans o4
        exact ⟨by simp [World.cell?, oo], by simp [World.cell?, oo], xo.cells⟩
      have HS := Lib.hid hS
      have hm1 : IntKind.i64.wrap (kk.tmod 4) = kk % 4 := by rw [Int.tmod_eq_emod_of_nonneg (by omega)]; exact IntWalk.i64_in _ (by omega)
      have hm2 : IntKind.i64.wrap (o' + t') = o' + t' := IntWalk.i64_in _ (by omega)
      have hm3 : IntKind.i64.wrap (o' + t' + h') = n := by rw [IntWalk.i64_in _ (by omega)]; omega
      have HA := Lib.hid hact
      clear hS hact c3 x3 o3
      have hsum : o' + t' + h' = n := by omega
      have HS2 := Lib.hid hsum
      have hle : o + t + h ≤ 65536 := by omega
      have hg2 : g' ≤ g + 65536 := by omega
      clear hsum hN' hN hg1'
      go_region_held3 (fun w' => w'.cell? ⟨O, 0, none⟩ = some (.int .u8 kk) ∧ w'.cell? ⟨O, 1, none⟩ = some (.int .i64 nn) ∧ w'.cell? ⟨X, 0, none⟩ = some (.int .i64 o') ∧ w'.cell? ⟨X, 1, none⟩ = some (.int .i64 t') ∧ w'.cell? ⟨X, 2, none⟩ = some (.int .i64 h') ∧ w'.cell? ⟨X, 3, none⟩ = some (.int .i64 g'))
        (first | exact HS.out _ h5.undrew | exact HS.out _ h5 | exact HS.out _ (Chg.refl _ _) | exact HS.out _ (Chg.refl _ _).drew)
        (first
          | (go_at_call 16; (with_reducible refine (do_any B (kk % 4) nn o t h g o' t' h' g' r _ ?_ HA.out ho ht hh (by omega) hg0 (by omega)).mono ?_); exact c4; rintro e w5 ⟨rfl, c5, h5⟩)
          | (go_at_call 13; (with_reducible refine (open_any B o' t' h' g' _ ?_).mono ?_); exact c5; rintro e w7 ⟨rfl, rfl⟩)
          | (go_at_call 17; (with_reducible refine (taken_any B o' t' h' g' _ ?_).mono ?_); exact c5; rintro e w7 ⟨rfl, rfl⟩)
          | (go_at_call 12; (with_reducible refine (held_any B o' t' h' g' _ ?_).mono ?_); exact c5; rintro e w7 ⟨rfl, rfl⟩)
          | (go_at_call 14; (with_reducible refine (grants_any B o' t' h' g' _ ?_).mono ?_); exact c5; rintro e w7 ⟨rfl, rfl⟩))
      clear hm1 hm2 hm3
      go_wp2
      go_roundw
      case rel => exact ⟨k + 1, o', t', h', g', by go_num, by omega, ho', ht', hh', HS2.out, hg0', by omega, c5, (h5.block X (by show X < _; simp; omega) (by omega)).trans x4, by have := h5.size; simp at this; omega, hb4.trans (h5.undrew.below (by omega) (by omega))⟩
      case measure => simp [intOf]; omega
    · go_wp2
      go_ret
      exact ⟨rfl, hBB2.trans (hbe.mono hsz0)⟩
end Go.Proofs.Ytaffepcpdmhjlaa
