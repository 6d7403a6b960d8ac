/-
  The reference's Read.
-/
import Derived.Test.YtmgkomobamjneaaH
namespace Go.Proofs.Ytmgkomobamjneaa
open Go.RowKit

theorem Bytes.dropA {ok : Nat → Prop} {w : World} {a : Addr} {cap K : Nat} {l : List UInt8} (h : Bytes ok w (.slice (some a) l.length cap) l) (hK : K ≤ l.length) (a' : Addr) (ha : K < l.length → a' = a.add K) :
    Bytes ok w (.slice (some a') (l.length - K) (cap - K)) (l.drop K) := by
  obtain ⟨o, cap', e, h1, h2, h4⟩ := h.form
  cases e
  have hlen : (l.drop K).length = l.length - K := List.length_drop
  refine .inr ⟨a', cap - K, by rw [hlen], by omega, by omega, fun hne => ?_⟩
  have hlt : K < l.length := by
    by_cases hh : K < l.length
    · exact hh
    · exact (hne (List.drop_eq_nil_of_le (by omega))).elim
  obtain ⟨b, off, e, q1, q2, q3⟩ := h4 (by intro e; rw [e] at hlt; simp at hlt)
  cases e
  rw [ha hlt, WideShapes.add_plain]
  refine ⟨rfl, q1, q2, fun i hi => ?_⟩
  rw [hlen] at hi
  show w.cell? ⟨b, off + K + i, none⟩ = _
  rw [show off + K + i = off + (K + i) by omega, q3 (K + i) (by omega)]
  simp [List.getD, List.getElem?_drop]

/-- What the reference's Read comes to. -/
def RefRead (ok : Nat → Prop) (w : World) (N h : Nat) (G : List UInt8) (K : Nat) (e : Ending) (w' : World) : Prop :=
  ∃ o1 c1 o2 c2, e = .returned (.tuple #[.agg #[.int .i64 N, .int .i64 (ix N (h + K) : Nat), .slice o1 (G.length - K) c1], .slice o2 K c2]) ∧
    Bytes ok w' (.slice o1 (G.length - K) c1) (G.drop K) ∧ Bytes ok w' (.slice o2 K c2) (G.take K) ∧ Below w.heap.size w w'

set_option maxRecDepth 100000 in
set_option maxHeartbeats 4000000 in
theorem refRead_any {ok : Nat → Prop} (N h : Nat) (o : Option Addr) (c : Nat) (G : List UInt8) (n : Int) (w : World) (hG : Bytes ok w (.slice o G.length c) G) (hh : h < N) (hl : G.length ≤ N) (hN : N ≤ 1000) (hn : n ≤ 9223372036854775807) :
    Calls Try.prog 23 #[.agg #[.int .i64 N, .int .i64 h, .slice o G.length c], .int .i64 n] w (RefRead ok w N h G (cut n G.length)) := by
  have hcl : G.length ≤ c ∧ c ≤ maxLen := by
    obtain ⟨_, _, e, q1, q2, _⟩ := hG.form
    cases e
    exact ⟨q1, q2⟩
  have hc := cut_le n G.length
  have hp : ((h : Int) + (cut n G.length : Nat)) % (N : Int) = ((ix N (h + cut n G.length) : Nat) : Int) := by rw [← ix_mod (by omega)]; rfl
  have hip : ix N (h + cut n G.length) < N := ix_lt (by omega)
  have hcase : (n < 0 ∧ cut n G.length = 0) ∨ (0 ≤ n ∧ n ≤ G.length ∧ ((cut n G.length : Nat) : Int) = n) ∨ ((G.length : Int) < n ∧ cut n G.length = G.length) := by
    unfold cut
    by_cases h0 : n < 0
    · exact .inl ⟨h0, if_pos h0⟩
    · rw [if_neg h0]
      by_cases h1 : n ≤ G.length
      · exact .inr (.inl ⟨by omega, h1, by omega⟩)
      · exact .inr (.inr ⟨by omega, by omega⟩)
  have hT := Bytes.take (k := cut n G.length) hG rfl hc hcl.1 hcl.2
  have hK : ∀ w', Below w.heap.size w w' → Bytes ok w' (.slice o (cut n G.length) c) (G.take (cut n G.length)) := fun w' h => hT.kept (Frm.of_below (ok := fun _ => True) h (fun q hq _ => hq)) (fun _ _ _ => trivial)
  have HT := Lib.hid hK
  unfold maxLen at hcl
  obtain ⟨hcl1, hcl2⟩ := hcl
  rcases o with _ | a
  · obtain ⟨hG0, hc0⟩ : G = [] ∧ c = 0 := by
      rcases hG with ⟨e, h⟩ | ⟨_, _, e, _⟩
      · injection e with _ _ e3; exact ⟨h, e3⟩
      · injection e with e1; cases e1
    subst hG0 hc0
    have hK0 : cut n ([] : List UInt8).length = 0 := by have : ([] : List UInt8).length = 0 := rfl; omega
    rw [hK0] at hp hip ⊢
    have hRR : ∀ w', Below w.heap.size w w' → RefRead ok w N h [] 0 (.returned (.tuple #[.agg #[.int .i64 N, .int .i64 (ix N (h + 0) : Nat), .slice none 0 0], .slice none 0 0])) w' := fun w' hB => ⟨none, 0, none, 0, rfl, .inl ⟨rfl, rfl⟩, .inl ⟨rfl, rfl⟩, hB⟩
    have HRR := Lib.hid hRR
    simp only [Nat.add_zero, Int.natCast_zero, Int.add_zero, List.length_nil] at hp hip HRR ⊢
    clear hT hK hG hRR hcase HT hK0 hc
    generalize ix N h = q at *
    have hcase : n < 0 ∨ n = 0 ∨ 0 < n := by omega
    rcases hcase with h0 | rfl | h0
    · go_enter Try.func23, Try.ntmps23
      go_wp2
      go_region
      go_wp2
      refine bodyPost_ret (v := .tuple #[.agg #[.int .i64 N, .int .i64 (q : Nat), .slice none 0 0], .slice none 0 0]) (by simp [results, Try.results23, go_sem]) rfl (HRR.out _ ?_)
      repeat first | (with_reducible exact Below.refl _ _) | (with_reducible apply Below.drew) | (with_reducible refine Below.alloc ?_ (by simp <;> omega) _) | (with_reducible refine Below.setCell ?_ (by simp) _)
    · go_enter Try.func23, Try.ntmps23
      go_wp2
      go_region
      go_wp2
      refine bodyPost_ret (v := .tuple #[.agg #[.int .i64 N, .int .i64 (q : Nat), .slice none 0 0], .slice none 0 0]) (by simp [results, Try.results23, go_sem]) rfl (HRR.out _ ?_)
      repeat first | (with_reducible exact Below.refl _ _) | (with_reducible apply Below.drew) | (with_reducible refine Below.alloc ?_ (by simp <;> omega) _) | (with_reducible refine Below.setCell ?_ (by simp) _)
    · go_enter Try.func23, Try.ntmps23
      go_wp2
      go_region
      go_wp2
      refine bodyPost_ret (v := .tuple #[.agg #[.int .i64 N, .int .i64 (q : Nat), .slice none 0 0], .slice none 0 0]) (by simp [results, Try.results23, go_sem]) rfl (HRR.out _ ?_)
      repeat first | (with_reducible exact Below.refl _ _) | (with_reducible apply Below.drew) | (with_reducible refine Below.alloc ?_ (by simp <;> omega) _) | (with_reducible refine Below.setCell ?_ (by simp) _)
  · have hRR : ∀ w' a1, (cut n G.length < G.length → a1 = a.add (cut n G.length)) → Below w.heap.size w w' →
        RefRead ok w N h G (cut n G.length) (.returned (.tuple #[.agg #[.int .i64 N, .int .i64 (ix N (h + cut n G.length) : Nat), .slice (some a1) (G.length - cut n G.length) (c - cut n G.length)], .slice (some a) (cut n G.length) c])) w' := fun w' a1 h1 hB =>
      ⟨some a1, c - cut n G.length, some a, c, rfl, (hG.dropA hc a1 h1).kept (Frm.of_below (ok := fun _ => True) hB (fun q hq _ => hq)) (fun _ _ _ => trivial), HT.out w' hB, hB⟩
    have HRR := Lib.hid hRR
    clear hT hK hG hRR HT
    rcases hcase with ⟨h0, hK⟩ | ⟨h0, h1, hK⟩ | ⟨h1, hK⟩
    · rw [hK] at hp hip HRR hc ⊢
      simp only [Nat.add_zero, Int.natCast_zero, Int.add_zero, Nat.sub_zero] at hp hip HRR
      generalize ix N h = q at *
      go_enter Try.func23, Try.ntmps23
      go_wp2
      go_region
      go_wp2
      refine bodyPost_ret (v := .tuple #[.agg #[.int .i64 N, .int .i64 (q : Nat), .slice (some a) G.length c], .slice (some a) 0 c]) (by simp [results, Try.results23, go_sem]) rfl (HRR.out _ a (fun _ => (Addr.add_zero' a).symm) ?_)
      repeat first | (with_reducible exact Below.refl _ _) | (with_reducible apply Below.drew) | (with_reducible refine Below.alloc ?_ (by simp <;> omega) _) | (with_reducible refine Below.setCell ?_ (by simp) _)
    · generalize cut n G.length = K at *
      subst hK
      generalize ix N (h + K) = q at *
      by_cases hcK : c = K
      · subst hcK
        go_enter Try.func23, Try.ntmps23
        go_wp2
        go_region
        go_wp2
        refine bodyPost_ret (v := .tuple #[.agg #[.int .i64 N, .int .i64 (q : Nat), .slice (some a) (G.length - c) (c - c)], .slice (some a) c c]) (by simp [results, Try.results23, go_sem]; omega) rfl (HRR.out _ a (fun h => by omega) ?_)
        repeat first | (with_reducible exact Below.refl _ _) | (with_reducible apply Below.drew) | (with_reducible refine Below.alloc ?_ (by simp <;> omega) _) | (with_reducible refine Below.setCell ?_ (by simp) _)
      · have hcK' : K < c := by omega
        clear hcK
        go_enter Try.func23, Try.ntmps23
        go_wp2
        go_region
        go_wp2
        refine bodyPost_ret (v := .tuple #[.agg #[.int .i64 N, .int .i64 (q : Nat), .slice (some (a.add K)) (G.length - K) (c - K)], .slice (some a) K c]) (by simp [results, Try.results23, go_sem]) rfl (HRR.out _ _ (fun _ => rfl) ?_)
        repeat first | (with_reducible exact Below.refl _ _) | (with_reducible apply Below.drew) | (with_reducible refine Below.alloc ?_ (by simp <;> omega) _) | (with_reducible refine Below.setCell ?_ (by simp) _)
    · rw [hK] at hp hip HRR hc ⊢
      generalize ix N (h + G.length) = q at *
      by_cases hcK : c = G.length
      · subst hcK
        go_enter Try.func23, Try.ntmps23
        go_wp2
        go_region
        go_wp2
        refine bodyPost_ret (v := .tuple #[.agg #[.int .i64 N, .int .i64 (q : Nat), .slice (some a) (G.length - G.length) (G.length - G.length)], .slice (some a) G.length G.length]) (by simp [results, Try.results23, go_sem]) rfl (HRR.out _ a (fun h => by omega) ?_)
        repeat first | (with_reducible exact Below.refl _ _) | (with_reducible apply Below.drew) | (with_reducible refine Below.alloc ?_ (by simp <;> omega) _) | (with_reducible refine Below.setCell ?_ (by simp) _)
      · have hcK' : G.length < c := by omega
        clear hcK
        go_enter Try.func23, Try.ntmps23
        go_wp2
        go_region
        go_wp2
        refine bodyPost_ret (v := .tuple #[.agg #[.int .i64 N, .int .i64 (q : Nat), .slice (some (a.add G.length)) (G.length - G.length) (c - G.length)], .slice (some a) G.length c]) (by simp [results, Try.results23, go_sem]) rfl (HRR.out _ _ (fun _ => rfl) ?_)
        repeat first | (with_reducible exact Below.refl _ _) | (with_reducible apply Below.drew) | (with_reducible refine Below.alloc ?_ (by simp <;> omega) _) | (with_reducible refine Below.setCell ?_ (by simp) _)
end Go.Proofs.Ytmgkomobamjneaa
