/-
  CreditBack: what was taken and returned leaves a credit as it was: true for every n, a, b; no condition.
-/
import Derived.Test.YtaffepcpdmhjlaaC
import Derived.Test.YtaffepcpdmhjlaaK
namespace Go.Proofs.Ytaffepcpdmhjlaa
open Go.ChangeShapes Go.WideShapes Go.ChangeAt Go.RowKit

set_option maxHeartbeats 400000 in
theorem back_walk (n a b : Int) (hn0 : 0 ≤ n) (hn1 : n ≤ 65535) (ha0 : 0 ≤ a) (ha1 : a ≤ 65535) (hb0 : 0 ≤ b) (hb1 : b ≤ 65535) (w : World) :
    Calls Try.prog 6 #[.int .u16 n, .int .u16 a, .int .u16 b] w fun e w' => e = .returned (.bool true) ∧ Below w.heap.size w w' := by
  go_enter Try.func6, Try.ntmps6
  go_wp2_with fail
  refine (wakes_any w).mono ?_
  rintro e W0 ⟨rfl, hB0⟩
  have hsz0 := hB0.size
  go_wp2_with fail
  refine (new_cr (n + 1) W0 (by omega) (by omega)).mono ?_
  rintro e W1 ⟨rfl, c, hB1, hlt1⟩
  generalize hb : W0.heap.size = B at *
  clear hb
  go_wp2_with fail
  refine (take_any B (n + 1) 0 0 0 _ W1 c (by omega) (by omega) (by omega)).mono ?_
  rintro e W2 ⟨rfl, c2, h2⟩
  obtain ⟨k0, k1⟩ := took_in a (n + 1) (by omega)
  generalize took a (n + 1) = k at *
  go_wp2_with fail
  refine (use_ok B _ _ _ 0 k W2 c2 (by omega) (by omega) (by omega) (by omega)).mono ?_
  rintro e W3 ⟨rfl, c3, h3⟩
  have c3' : Cr W3 B (n + 1 - k) 0 k 0 := c3.is rfl (by omega) (by omega) rfl
  clear c3
  go_wp2_with fail
  refine (take_any B _ _ _ _ _ W3 c3' (by omega) (by omega) (by omega)).mono ?_
  rintro e W4 ⟨rfl, c4, h4⟩
  obtain ⟨t0, t1⟩ := took_in b (n + 1 - k) (by omega)
  generalize took b (n + 1 - k) = t at *
  go_wp2_with fail
  refine (open_any B _ _ _ _ W4 c4).mono ?_
  rintro e w7 ⟨rfl, rfl⟩
  go_wp2_with fail
  refine (held_any B _ _ _ _ W4 c4).mono ?_
  rintro e w7 ⟨rfl, rfl⟩
  go_wp2_with fail
  refine (ret_ok B _ _ _ _ _ W4 c4 (by omega) (by omega) (by omega) (by omega)).mono ?_
  rintro e W5 ⟨rfl, c5, h5⟩
  have c5' : Cr W5 B (n + 1 - k - t + t) 0 k 0 := c5.is rfl (by omega) rfl rfl
  clear c5
  go_wp2_with fail
  refine (taken_any B _ _ _ _ W5 c5').mono ?_
  rintro e w7 ⟨rfl, rfl⟩
  go_wp2_with fail
  refine (open_any B _ _ _ _ W5 c5').mono ?_
  rintro e w7 ⟨rfl, rfl⟩
  go_wp2_with fail
  refine (held_any B _ _ _ _ W5 c5').mono ?_
  rintro e w7 ⟨rfl, rfl⟩
  go_wp2_with fail
  refine (grants_any B _ _ _ _ W5 c5').mono ?_
  rintro e w7 ⟨rfl, rfl⟩
  go_wp2
  go_ret
  have hh := (((h2.trans h3).trans h4).trans h5).below hsz0 (by omega)
  exact ⟨rfl, (hB0.trans (hB1.mono hsz0)).trans hh⟩

set_option maxRecDepth 100000 in
theorem back_lifted (os : Os) (started : os.Started) (H : Type) (enc : TypeId × Value → H) :
    ReturnsInHanded {} Try.checked os 6 .any (Rows.creditBackSpec.pre6 enc Try.prog Try.f6 Rows.creditBackRow.domain false) (Rows.creditBackSpec.post enc Try.prog Try.f6 false true false false) := by
  refine returnsInHanded_of_change (C := Try.checked) own started (by kernel_rfl) Try.func6
    (ChangeSpec.witness6 (enc := enc) (C := Try.checked) false ⟨#[], #[.int .u16 0, .int .u16 0, .int .u16 0], []⟩ 8 (by kernel_rfl) (by kernel_rfl) (by kernel_rfl) (by kernel_rfl)) ?_
  intro W base args ds gs before hval0 hW _ _
  have hval : ∀ (j : Nat) t v, Try.f6.params[j]? = some t → args[j]? = some v → Value.okWide Try.prog W .any base t v := hval0
  have hW' := hW
  obtain ⟨p, q, hA0, hV, rfl, _, _⟩ := hW'
  have hA : DataW.TrodAll enc Try.prog W 0 (fun _ => true) true Try.f6.params.toList args.toList ds p := hA0
  rw [Try.params6] at hA hval
  obtain ⟨v0, v1, v2, d0, d1, d2, p0, p1, p2, rfl, rfl, rfl, h0, h1, h2⟩ := trodAll_three hA
  obtain ⟨n, rfl, rfl, rfl, wn⟩ := open_int Try.underlying22 (hval 0 22 v0 rfl rfl) h0
  obtain ⟨a, rfl, rfl, rfl, wa⟩ := open_int Try.underlying22 (hval 1 22 v1 rfl rfl) h1
  obtain ⟨b, rfl, rfl, rfl, wb⟩ := open_int Try.underlying22 (hval 2 22 v2 rfl rfl) h2
  have hn : 0 ≤ n ∧ n ≤ 65535 := by simpa [Lit.wf, IntKind.min, IntKind.max, IntKind.signed, IntKind.bits] using wn
  have ha : 0 ≤ a ∧ a ≤ 65535 := by simpa [Lit.wf, IntKind.min, IntKind.max, IntKind.signed, IntKind.bits] using wa
  have hb : 0 ≤ b ∧ b ≤ 65535 := by simpa [Lit.wf, IntKind.min, IntKind.max, IntKind.signed, IntKind.bits] using wb
  exact law_contract laidOut (by kernel_rfl) (by kernel_rfl) Try.underlying4 rfl rfl hW (back_walk n a b hn.1 hn.2 ha.1 ha.2 hb.1 hb.2 W)

theorem back_holds : Rows.CreditBackSaid :=
  OpenClaim.holds_of_wide 6 Try.f6 rfl rfl rfl rfl rfl rfl rfl ⟨rfl, rfl, rfl, rfl, rfl⟩ rfl rfl rfl rfl rfl (by kernel_rfl) Try.func6 (by kernel_rfl)
    (of_decide_eq_true (by kernel_rfl)) (by unfold Func.isWrapper; first | (rw [if_pos (by decide +kernel)]; kernel_rfl) | (rw [if_neg (by decide +kernel)]; exact ⟨rfl, rfl⟩))
    (fun os started H enc _ => back_lifted os started H enc)
#print axioms back_holds
end Go.Proofs.Ytaffepcpdmhjlaa
