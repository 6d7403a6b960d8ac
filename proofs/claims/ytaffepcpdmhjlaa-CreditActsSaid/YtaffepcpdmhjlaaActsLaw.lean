/-
  CreditActs: whatever is called, one call behind the other, of a credit of any size: each call tells what the document says; all units together stay as many: true for every n and l; no condition. (The row, over the walk.)
-/
import Derived.Test.YtaffepcpdmhjlaaActs
import Derived.Deep.Fields
namespace Go.Proofs.Ytaffepcpdmhjlaa
open Go.ChangeShapes Go.WideShapes Go.ChangeAt Go.RowKit Go.Deep

section
variable {H : Type} {enc : TypeId × Value → H} {P : Program}
/-- A slice of structs of two integers that came in. -/
theorem open_pairs {t e t0 t1 : TypeId} {f0 f1 : Field} {k0 k1 : IntKind} {W : World} {base : Nat} {v : Value} {d : DataW H} {ps : List MemPlace} (ht : P.underlying t = some (.slice e)) (he : P.underlying e = some (.struct #[f0, f1]))
    (hone : oneCellFields P #[f0, f1] = true) (hC : P.cellsOf e = 2) (hf0 : f0.type = t0) (hf1 : f1.type = t1) (h0 : P.underlying t0 = some (.int k0)) (h1 : P.underlying t1 = some (.int k1))
    (hval : Value.okWide P W .any base t v) (h : DataW.Trod enc P W 0 (fun _ => true) true t v d ps) :
    ∃ (a : Option Addr) (bl off cap : Nat) (l : List (Int × Int)), v = .slice a l.length cap ∧ (l ≠ [] → a = some ⟨bl, off, none⟩) ∧ (l ≠ [] → bl < W.heap.size) ∧
      (∀ i, i < l.length → W.cell? ⟨bl, off + i * 2, none⟩ = some (.int k0 (l.getD i (0, 0)).1) ∧ W.cell? ⟨bl, off + i * 2 + 1, none⟩ = some (.int k1 (l.getD i (0, 0)).2)) ∧
      (∀ i, i < l.length → (Lit.int k0 (l.getD i (0, 0)).1).wf = true ∧ (Lit.int k1 (l.getD i (0, 0)).2).wf = true) ∧ l.length ≤ maxLen := by
  obtain ⟨a0, len, cap, rfl⟩ := okWide_slice ht hval
  obtain ⟨fuel, hf⟩ := h
  rcases open_slice ht hf with ⟨hcs, _⟩ | ⟨a, len', cap', m, n, D, Pl, hcs, _, hl, hm, hmm, _, hi⟩
  · simp [Value.cells] at hcs
    obtain ⟨rfl, rfl, rfl⟩ := hcs
    exact ⟨none, 0, 0, 0, [], rfl, fun h => (h rfl).elim, fun h => (h rfl).elim, fun i hi => by simp at hi, fun i hi => by simp at hi, Nat.zero_le _⟩
  · simp [Value.cells] at hcs
    obtain ⟨rfl, rfl, rfl⟩ := hcs
    simp only [if_true] at hmm
    have each : ∀ i, i < len → ∃ x : Int × Int, W.cell? (a.add (i * 2)) = some (.int k0 x.1) ∧ W.cell? (a.add (i * 2 + 1)) = some (.int k1 x.2) ∧ (Lit.int k0 x.1).wf = true ∧ (Lit.int k1 x.2).wf = true := by
      intro i hil
      obtain ⟨cs', hc, ht'⟩ := hi i (by omega)
      rw [hC] at hc
      obtain ⟨ys, n', hn', hy, hlen, hyl, hfs⟩ := DataW.trod_struct he ht'
      obtain ⟨_, hcl, hat⟩ := World.cells?_some hc
      obtain ⟨o0, q0⟩ := hone_of hone 0 f0 rfl
      obtain ⟨o1, q1⟩ := hone_of hone 1 f1 rfl
      match cs', hcl with
      | [c0, c1], _ =>
        have e0 := hfs 0 f0 rfl
        have e1 := hfs 1 f1 rfl
        rw [o0, q0, hf0] at e0
        rw [o1, q1, hf1] at e1
        have hys : ys.length = 2 := hyl
        match ys, hys with
        | [y0, y1], _ =>
          obtain ⟨x0, g0, _, w0⟩ := DataW.trod_int h0 (show DataW.trod enc P W 0 (fun _ => true) true n' t0 [c0] = some y0 from e0)
          obtain ⟨x1, g1, _, w1⟩ := DataW.trod_int h1 (show DataW.trod enc P W 0 (fun _ => true) true n' t1 [c1] = some y1 from e1)
          simp at g0 g1
          subst g0 g1
          have b0 := hat 0 (by omega)
          have b1 := hat 1 (by omega)
          rw [Go.Deep.add_add] at b0 b1
          exact ⟨(x0, x1), by simpa using b0, by simpa using b1, w0, w1⟩
    obtain ⟨f, hf⟩ := choose_lt each
    have hlen : ((List.range len).map f).length = len := by simp
    have hget : ∀ i, i < len → ((List.range len).map f).getD i (0, 0) = f i := fun i hi => by simp [List.getD, hi]
    by_cases hz0 : len = 0
    · subst hz0
      exact ⟨some a, 0, 0, cap, [], rfl, fun h => (h rfl).elim, fun h => (h rfl).elim, fun i hi => by simp at hi, fun i hi => by simp at hi, Nat.zero_le _⟩
    · have hc0 := (hf 0 (by omega)).1
      have hspot : a.spot = none := by simpa [Addr.add] using World.cell?_spot hc0
      obtain ⟨bl, off, spot⟩ := a
      simp only at hspot
      subst hspot
      have hb := World.block_lt_of_cell? (w := W) (a := (⟨bl, off, none⟩ : Addr).add (0 * 2)) hc0
      refine ⟨some ⟨bl, off, none⟩, bl, off, cap, (List.range len).map f, by rw [hlen], fun _ => rfl, fun _ => by simpa [Addr.add] using hb, ?_, ?_, by omega⟩
      · intro i hi
        rw [hlen] at hi
        rw [hget i hi]
        have q := hf i hi
        rw [WideShapes.add_plain, WideShapes.add_plain] at q
        exact ⟨q.1, q.2.1⟩
      · intro i hi
        rw [hlen] at hi
        rw [hget i hi]
        exact (hf i hi).2.2
end

set_option maxRecDepth 100000 in
set_option maxHeartbeats 400000 in
theorem acts_long (n : Int) (v : Option Addr) (len cap : Nat) (w : World) (hlen : 50 < len) (hm : len ≤ maxLen) :
    Calls Try.prog 5 #[.int .i64 n, .slice v len cap] w fun e w' => e = .returned (.bool true) ∧ Below w.heap.size w w' := by
  unfold maxLen at hm
  go_enter Try.func5, Try.ntmps5
  go_wp2_with fail
  refine (wakes_any w).mono ?_
  rintro e W0 ⟨rfl, hB0⟩
  go_wp2
  go_ret
  exact ⟨rfl, hB0⟩

set_option maxRecDepth 100000 in
set_option maxHeartbeats 400000 in
theorem acts_no (n : Int) (v : Option Addr) (len cap : Nat) (w : World) (hlen : len ≤ 50) (hn : n < 1 ∨ 65536 < n) :
    Calls Try.prog 5 #[.int .i64 n, .slice v len cap] w fun e w' => e = .returned (.bool true) ∧ Below w.heap.size w w' := by
  have hd : decide (n < 1) = true ∨ decide (n < 1) = false ∧ decide (65536 < n) = true := by
    by_cases h : n < 1
    · exact .inl (by simpa using h)
    · exact .inr ⟨by simpa using h, by simp; omega⟩
  rcases hd with hd | ⟨hd, hd2⟩
  all_goals
    go_enter Try.func5, Try.ntmps5
    go_wp2_with fail
    refine (wakes_any w).mono ?_
    rintro e W0 ⟨rfl, hB0⟩
    go_wp2_with fail
    refine (new_no n W0 hn).mono ?_
    rintro e W1 ⟨rfl, rfl⟩
    go_wp2
    go_ret
    exact ⟨rfl, hB0⟩

theorem acts_any (n : Int) (l : List (Int × Int)) (a : Option Addr) (bl off cap : Nat) (w : World) (hm : l.length ≤ maxLen)
    (ha : l ≠ [] → a = some ⟨bl, off, none⟩) (hbl : l ≠ [] → bl < w.heap.size)
    (hcell : ∀ i, i < l.length → w.cell? ⟨bl, off + i * 2, none⟩ = some (.int .u8 (l.getD i (0, 0)).1) ∧ w.cell? ⟨bl, off + i * 2 + 1, none⟩ = some (.int .i64 (l.getD i (0, 0)).2))
    (hwf : ∀ i, i < l.length → 0 ≤ (l.getD i (0, 0)).1 ∧ (l.getD i (0, 0)).1 ≤ 255) :
    Calls Try.prog 5 #[.int .i64 n, .slice a l.length cap] w fun e w' => e = .returned (.bool true) ∧ Below w.heap.size w w' := by
  by_cases h : l.length ≤ 50
  · by_cases hn : 1 ≤ n ∧ n ≤ 65536
    · exact acts_walk n l a bl off cap hn.1 hn.2 w h ha hbl hcell hwf
    · exact acts_no n a _ cap w h (by omega)
  · exact acts_long n a _ cap w (by omega) hm

set_option maxRecDepth 100000 in
theorem acts_lifted (os : Os) (started : os.Started) (H : Type) (enc : TypeId × Value → H) :
    ReturnsInHanded {} Try.checked os 5 .any (Rows.creditActsSpec.pre6 enc Try.prog Try.f5 Rows.creditActsRow.domain false) (Rows.creditActsSpec.post enc Try.prog Try.f5 false true false false) := by
  refine returnsInHanded_of_change (C := Try.checked) own started (by kernel_rfl) Try.func5
    (ChangeSpec.witness6 (enc := enc) (C := Try.checked) false ⟨#[], #[.int .i64 0, .slice none 0 0], []⟩ 8 (by kernel_rfl) (by kernel_rfl) (by kernel_rfl) (by kernel_rfl)) ?_
  intro W base args ds gs before hval0 hW _ _
  have hval : ∀ (j : Nat) t v, Try.f5.params[j]? = some t → args[j]? = some v → Value.okWide Try.prog W .any base t v := hval0
  have hW' := hW
  obtain ⟨p, q, hA0, hV, rfl, _, _⟩ := hW'
  have hA : DataW.TrodAll enc Try.prog W 0 (fun _ => true) true Try.f5.params.toList args.toList ds p := hA0
  rw [Try.params5] at hA hval
  obtain ⟨v0, v1, d0, d1, p0, p1, rfl, rfl, rfl, h0, h1⟩ := trodAll_two hA
  obtain ⟨n, rfl, rfl, rfl, wn⟩ := open_int Try.underlying3 (hval 0 3 v0 rfl rfl) h0
  obtain ⟨a, bl, off, cap, l, rfl, ha, hbl, hcell, hwf, hm⟩ := open_pairs Try.underlying36 Try.underlying40 (by kernel_rfl) (by kernel_rfl) rfl rfl Try.underlying5 Try.underlying3 (hval 1 36 v1 rfl rfl) h1
  have hwf' : ∀ i, i < l.length → 0 ≤ (l.getD i (0, 0)).1 ∧ (l.getD i (0, 0)).1 ≤ 255 := fun i hi => by
    simpa [Lit.wf, IntKind.min, IntKind.max, IntKind.signed, IntKind.bits] using (hwf i hi).1
  exact law_contract laidOut (by kernel_rfl) (by kernel_rfl) Try.underlying4 rfl rfl hW (acts_any n l a bl off cap W hm ha hbl hcell hwf')

theorem acts_holds : Rows.CreditActsSaid :=
  OpenClaim.holds_of_wide 5 Try.f5 rfl rfl rfl rfl rfl rfl rfl ⟨rfl, rfl, rfl, rfl, rfl⟩ rfl rfl rfl rfl rfl (by kernel_rfl) Try.func5 (by kernel_rfl)
    (of_decide_eq_true (by kernel_rfl)) (by unfold Func.isWrapper; first | (rw [if_pos (by decide +kernel)]; kernel_rfl) | (rw [if_neg (by decide +kernel)]; exact ⟨rfl, rfl⟩))
    (fun os started H enc _ => acts_lifted os started H enc)
#print axioms acts_holds
end Go.Proofs.Ytaffepcpdmhjlaa
