/-
  CreditGrants: as many units were given, all together, as were held and are held no more: true for every n and l; no condition.
-/
import Derived.Test.YtaffepcpdmhjlaaC
import Derived.Test.YtaffepcpdmhjlaaK
namespace Go.Proofs.Ytaffepcpdmhjlaa
open Go.ChangeShapes Go.WideShapes Go.ChangeAt Go.RowKit

set_option maxHeartbeats 400000 in
theorem grants_walk (n : Int) (zs : List Int) (a : Option Addr) (bl off cap : Nat) (hn0 : 0 ≤ n) (hn1 : n ≤ 65535) (w : World) (hlen : zs.length ≤ 100)
    (ha : zs ≠ [] → a = some ⟨bl, off, none⟩) (hbl : zs ≠ [] → bl < w.heap.size) (hcell : ∀ i, i < zs.length → w.cell? ⟨bl, off + i, none⟩ = some (.int .u8 (zs.getD i 0))) (hwf : ∀ i, i < zs.length → 0 ≤ zs.getD i 0 ∧ zs.getD i 0 ≤ 255) :
    Calls Try.prog 4 #[.int .u16 n, .slice a zs.length cap] w fun e w' => e = .returned (.bool true) ∧ Below w.heap.size w w' := by
  go_enter Try.func4, Try.ntmps4
  go_wp2_with fail
  refine (wakes_any w).mono ?_
  rintro e W0 ⟨rfl, hB0⟩
  have hsz0 := hB0.size
  go_wp2_with fail
  refine (new_cr (n + 1) W0 (by omega) (by omega)).mono ?_
  rintro e W1 ⟨rfl, c, hB1, hlt1⟩
  have hBB := hB0.trans (hB1.mono hsz0)
  generalize hb : W0.heap.size = B at *
  clear hb hB0 hB1
  have hcW : ∀ i, i < zs.length → W1.cell? ⟨bl, off + i, none⟩ = some (.int .u8 (zs.getD i 0)) := fun i hi => by
    have : zs ≠ [] := by intro e; rw [e] at hi; simp at hi
    rw [hBB.cell (p := ⟨bl, off + i, none⟩) (hbl this)]
    exact hcell i hi
  have hblB : zs ≠ [] → bl < B := fun h => by have := hbl h; omega
  clear hcell
  go_wp2
  go_loopw [7, 31] (fun hd i wr => ∃ (k : Nat) (m g : Int), i = .int .i64 k ∧ k ≤ zs.length ∧ hd = .int .i64 (g + m) ∧ 0 ≤ m ∧ m ≤ n + 1 ∧ 0 ≤ g ∧ g ≤ 65536 * k ∧ Cr wr B (n + 1 - m) 0 m g ∧ Chg B W1 wr)
    (fun _ i _ => zs.length - (intOf i).toNat)
  case atStart => exact ⟨0, 0, 0, rfl, Nat.zero_le _, rfl, by omega, by omega, by omega, by omega, c.is (by omega) rfl rfl rfl, Chg.refl _ _⟩
  case round =>
    obtain ⟨k, m, g, rfl, hk, rfl, hm0, hm1, hg0, hg1, cr, hch⟩ := hrel
    by_cases hlt : k < zs.length
    · have hz : zs ≠ [] := by intro e; rw [e] at hlt; simp at hlt
      have hc : wr.cell? ⟨bl, off + k, none⟩ = some (.int .u8 (zs.getD k 0)) := by
        rw [hch.cell (p := ⟨bl, off + k, none⟩) (by have := hblB hz; show bl < _; omega) (by have := hblB hz; show bl ≠ _; omega)]
        exact hcW k hlt
      have hw := hwf k hlt
      obtain rfl := ha hz
      generalize zs.getD k 0 = z at *
      clear hcW
      go_wp2_with fail
      refine (take_any B (n + 1 - m) 0 m g z wr cr (by omega) (by omega) (by omega)).mono ?_
      rintro e W2 ⟨rfl, c2, h2⟩
      obtain ⟨k0, k1⟩ := took_in z (n + 1 - m) (by omega)
      generalize took z (n + 1 - m) = t at *
      go_wp2_with fail
      refine (use_ok B _ _ _ g t W2 c2 (by omega) (by omega) (by omega) (by omega)).mono ?_
      rintro e W3 ⟨rfl, c3, h3⟩
      have c3' : Cr W3 B (n + 1 - (m + t)) 0 (m + t) g := c3.is (by omega) (by omega) (by omega) rfl
      clear c3
      go_wp2_with fail
      refine (held_any B _ _ _ _ W3 c3').mono ?_
      rintro e w7 ⟨rfl, rfl⟩
      go_wp2_with fail
      refine (give_ok B _ _ _ g ((m + t) / 2) W3 c3' (by omega) (by omega) (by omega) (by omega) (by omega) (by omega)).mono ?_
      rintro e W4 ⟨rfl, c4, h4⟩
      have c4' : Cr W4 B (n + 1 - (m + t - (m + t) / 2)) 0 (m + t - (m + t) / 2) (g + (m + t) / 2) := c4.is (by omega) (by omega) (by omega) rfl
      clear c4
      go_wp2_with fail
      refine (grants_any B _ _ _ _ W4 c4').mono ?_
      rintro e w7 ⟨rfl, rfl⟩
      go_wp2_with fail
      refine (held_any B _ _ _ _ W4 c4').mono ?_
      rintro e w7 ⟨rfl, rfl⟩
      go_wp2
      go_roundw
      case rel => exact ⟨k + 1, m + t - (m + t) / 2, g + (m + t) / 2, by go_num, by omega, by go_num, by omega, by omega, by omega, by omega, c4', ((hch.trans h2).trans h3).trans h4⟩
      case measure => simp [intOf]; omega
    · clear hcW hwf
      go_wp2
      go_ret
      exact ⟨rfl, hBB.trans (hch.below (by omega) (by have := hBB.size; omega))⟩

set_option maxHeartbeats 400000 in
theorem grants_long (n : Int) (v : Option Addr) (len cap : Nat) (w : World) (hlen : 100 < len) (hm : len ≤ maxLen) :
    Calls Try.prog 4 #[.int .u16 n, .slice v len cap] w fun e w' => e = .returned (.bool true) ∧ Below w.heap.size w w' := by
  unfold maxLen at hm
  go_enter Try.func4, Try.ntmps4
  go_wp2_with fail
  refine (wakes_any w).mono ?_
  rintro e W0 ⟨rfl, hB0⟩
  go_wp2
  go_ret
  exact ⟨rfl, hB0⟩

theorem grants_any2 (n : Int) (zs : List Int) (a : Option Addr) (bl off cap : Nat) (hn0 : 0 ≤ n) (hn1 : n ≤ 65535) (w : World) (hm : zs.length ≤ maxLen)
    (ha : zs ≠ [] → a = some ⟨bl, off, none⟩) (hbl : zs ≠ [] → bl < w.heap.size) (hcell : ∀ i, i < zs.length → w.cell? ⟨bl, off + i, none⟩ = some (.int .u8 (zs.getD i 0))) (hwf : ∀ i, i < zs.length → 0 ≤ zs.getD i 0 ∧ zs.getD i 0 ≤ 255) :
    Calls Try.prog 4 #[.int .u16 n, .slice a zs.length cap] w fun e w' => e = .returned (.bool true) ∧ Below w.heap.size w w' := by
  by_cases h : zs.length ≤ 100
  · exact grants_walk n zs a bl off cap hn0 hn1 w h ha hbl hcell hwf
  · exact grants_long n a _ cap w (by omega) hm

set_option maxRecDepth 100000 in
theorem grants_lifted (os : Os) (started : os.Started) (H : Type) (enc : TypeId × Value → H) :
    ReturnsInHanded {} Try.checked os 4 .any (Rows.creditGrantsSpec.pre6 enc Try.prog Try.f4 Rows.creditGrantsRow.domain false) (Rows.creditGrantsSpec.post enc Try.prog Try.f4 false true false false) := by
  refine returnsInHanded_of_change (C := Try.checked) own started (by kernel_rfl) Try.func4
    (ChangeSpec.witness6 (enc := enc) (C := Try.checked) false ⟨#[], #[.int .u16 0, .slice none 0 0], []⟩ 8 (by kernel_rfl) (by kernel_rfl) (by kernel_rfl) (by kernel_rfl)) ?_
  intro W base args ds gs before hval0 hW _ _
  have hval : ∀ (j : Nat) t v, Try.f4.params[j]? = some t → args[j]? = some v → Value.okWide Try.prog W .any base t v := hval0
  have hW' := hW
  obtain ⟨p, q, hA0, hV, rfl, _, _⟩ := hW'
  have hA : DataW.TrodAll enc Try.prog W 0 (fun _ => true) true Try.f4.params.toList args.toList ds p := hA0
  rw [Try.params4] at hA hval
  obtain ⟨v0, v1, d0, d1, p0, p1, rfl, rfl, rfl, h0, h1⟩ := trodAll_two hA
  obtain ⟨n, rfl, rfl, rfl, wn⟩ := open_int Try.underlying22 (hval 0 22 v0 rfl rfl) h0
  have hn : 0 ≤ n ∧ n ≤ 65535 := by simpa [Lit.wf, IntKind.min, IntKind.max, IntKind.signed, IntKind.bits] using wn
  obtain ⟨a, bl, off, cap, zs, rfl, ha, hbl, hcell, hwf, hm⟩ := open_list Try.underlying33 Try.underlying5 (by kernel_rfl) (hval 1 33 v1 rfl rfl) h1
  have hwf' : ∀ i, i < zs.length → 0 ≤ zs.getD i 0 ∧ zs.getD i 0 ≤ 255 := fun i hi => by
    simpa [Lit.wf, IntKind.min, IntKind.max, IntKind.signed, IntKind.bits] using hwf i hi
  exact law_contract laidOut (by kernel_rfl) (by kernel_rfl) Try.underlying4 rfl rfl hW (grants_any2 n zs a bl off cap hn.1 hn.2 W hm ha hbl hcell hwf')

theorem grants_holds : Rows.CreditGrantsSaid :=
  OpenClaim.holds_of_wide 4 Try.f4 rfl rfl rfl rfl rfl rfl rfl ⟨rfl, rfl, rfl, rfl, rfl⟩ rfl rfl rfl rfl rfl (by kernel_rfl) Try.func4 (by kernel_rfl)
    (of_decide_eq_true (by kernel_rfl)) (by unfold Func.isWrapper; first | (rw [if_pos (by decide +kernel)]; kernel_rfl) | (rw [if_neg (by decide +kernel)]; exact ⟨rfl, rfl⟩))
    (fun os started H enc _ => grants_lifted os started H enc)
#print axioms grants_holds
end Go.Proofs.Ytaffepcpdmhjlaa
