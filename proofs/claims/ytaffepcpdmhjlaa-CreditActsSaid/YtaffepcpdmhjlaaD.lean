/-
  What one call of Op comes to: the reference's Do and the law's own 'do' alike.
-/
import Derived.Test.YtaffepcpdmhjlaaC
namespace Go.Proofs.Ytaffepcpdmhjlaa
open Go.RowKit

/-- One call: kind k of n on (o, t, h, g): what there is then, what is told. -/
def Act1 (k n o t h g o' t' h' g' r : Int) : Prop :=
  (k = 0 ∧ n < 0 ∧ o' = o ∧ t' = t ∧ h' = h ∧ g' = g ∧ r = 0) ∨
  (k = 0 ∧ 0 ≤ n ∧ n ≤ o ∧ o' = o - n ∧ t' = t + n ∧ h' = h ∧ g' = g ∧ r = n) ∨
  (k = 0 ∧ o < n ∧ o' = 0 ∧ t' = t + o ∧ h' = h ∧ g' = g ∧ r = o) ∨
  (1 ≤ k ∧ k ≤ 3 ∧ n < 0 ∧ o' = o ∧ t' = t ∧ h' = h ∧ g' = g ∧ r = 1) ∨
  (k = 3 ∧ 0 ≤ n ∧ h < n ∧ o' = o ∧ t' = t ∧ h' = h ∧ g' = g ∧ r = 7) ∨
  (k = 3 ∧ 0 ≤ n ∧ n ≤ h ∧ o' = o + n ∧ t' = t ∧ h' = h - n ∧ g' = g + n ∧ r = 0) ∨
  (1 ≤ k ∧ k ≤ 2 ∧ 0 ≤ n ∧ t < n ∧ o' = o ∧ t' = t ∧ h' = h ∧ g' = g ∧ r = 7) ∨
  (k = 1 ∧ 0 ≤ n ∧ n ≤ t ∧ o' = o ∧ t' = t - n ∧ h' = h + n ∧ g' = g ∧ r = 0) ∨
  (k = 2 ∧ 0 ≤ n ∧ n ≤ t ∧ o' = o + n ∧ t' = t - n ∧ h' = h ∧ g' = g ∧ r = 0)

theorem act_is (k n o t h g : Int) (hk : 0 ≤ k ∧ k ≤ 3) : ∃ o' t' h' g' r, Act1 k n o t h g o' t' h' g' r := by
  have hc : (k = 0 ∧ n < 0) ∨ (k = 0 ∧ 0 ≤ n ∧ n ≤ o) ∨ (k = 0 ∧ 0 ≤ n ∧ o < n) ∨ (1 ≤ k ∧ k ≤ 3 ∧ n < 0) ∨ (k = 3 ∧ 0 ≤ n ∧ h < n) ∨ (k = 3 ∧ 0 ≤ n ∧ n ≤ h) ∨ (1 ≤ k ∧ k ≤ 2 ∧ 0 ≤ n ∧ t < n) ∨ (k = 1 ∧ 0 ≤ n ∧ n ≤ t) ∨ (k = 2 ∧ 0 ≤ n ∧ n ≤ t) := by omega
  rcases hc with h1 | h1 | h1 | h1 | h1 | h1 | h1 | h1 | h1
  · exact ⟨o, t, h, g, 0, .inl ⟨by omega, by omega, rfl, rfl, rfl, rfl, rfl⟩⟩
  · exact ⟨o - n, t + n, h, g, n, .inr (.inl ⟨by omega, by omega, by omega, rfl, rfl, rfl, rfl, rfl⟩)⟩
  · exact ⟨0, t + o, h, g, o, .inr (.inr (.inl ⟨by omega, by omega, rfl, rfl, rfl, rfl, rfl⟩))⟩
  · exact ⟨o, t, h, g, 1, .inr (.inr (.inr (.inl ⟨by omega, by omega, by omega, rfl, rfl, rfl, rfl, rfl⟩)))⟩
  · exact ⟨o, t, h, g, 7, .inr (.inr (.inr (.inr (.inl ⟨by omega, by omega, by omega, rfl, rfl, rfl, rfl, rfl⟩))))⟩
  · exact ⟨o + n, t, h - n, g + n, 0, .inr (.inr (.inr (.inr (.inr (.inl ⟨by omega, by omega, by omega, rfl, rfl, rfl, rfl, rfl⟩)))))⟩
  · exact ⟨o, t, h, g, 7, .inr (.inr (.inr (.inr (.inr (.inr (.inl ⟨by omega, by omega, by omega, by omega, rfl, rfl, rfl, rfl, rfl⟩))))))⟩
  · exact ⟨o, t - n, h + n, g, 0, .inr (.inr (.inr (.inr (.inr (.inr (.inr (.inl ⟨by omega, by omega, by omega, rfl, rfl, rfl, rfl, rfl⟩)))))))⟩
  · exact ⟨o + n, t - n, h, g, 0, .inr (.inr (.inr (.inr (.inr (.inr (.inr (.inr (⟨by omega, by omega, by omega, rfl, rfl, rfl, rfl, rfl⟩))))))))⟩

theorem act_keeps {k n o t h g o' t' h' g' r N : Int} (ha : Act1 k n o t h g o' t' h' g' r) (h0 : 0 ≤ o) (h1 : 0 ≤ t) (h2 : 0 ≤ h) (hN : o + t + h = N) (hg : 0 ≤ g) :
    0 ≤ o' ∧ 0 ≤ t' ∧ 0 ≤ h' ∧ o' + t' + h' = N ∧ 0 ≤ g' ∧ g' ≤ g + N := by
  rcases ha with ha | ha | ha | ha | ha | ha | ha | ha | ha
  all_goals omega

set_option maxHeartbeats 1000000 in
theorem ref_do (k n o t h g o' t' h' g' r : Int) (w : World) (ha : Act1 k n o t h g o' t' h' g' r) (h0 : 0 ≤ o) (h1 : 0 ≤ t) (h2 : 0 ≤ h) (hN : o + t + h ≤ 65536) (hg : 0 ≤ g) (hg2 : g ≤ 1000000000) :
    Calls Try.prog 15 #[.agg #[.int .i64 o, .int .i64 t, .int .i64 h, .int .i64 g], .int .i64 k, .int .i64 n] w fun e w' =>
      e = .returned (.tuple #[.agg #[.int .i64 o', .int .i64 t', .int .i64 h', .int .i64 g'], .int .i64 r]) ∧ Below w.heap.size w w' := by
  rcases ha with ⟨rfl, hn, rfl, rfl, rfl, rfl, rfl⟩ | ⟨rfl, hn, hn2, rfl, rfl, rfl, rfl, rfl⟩ | ⟨rfl, hn, rfl, rfl, rfl, rfl, rfl⟩ | ⟨hk, hk2, hn, rfl, rfl, rfl, rfl, rfl⟩ | ⟨rfl, hn, hn2, rfl, rfl, rfl, rfl, rfl⟩ | ⟨rfl, hn, hn2, rfl, rfl, rfl, rfl, rfl⟩ | ⟨hk, hk2, hn, hn2, rfl, rfl, rfl, rfl, rfl⟩ | ⟨rfl, hn, hn2, rfl, rfl, rfl, rfl, rfl⟩ | ⟨rfl, hn, hn2, rfl, rfl, rfl, rfl, rfl⟩
  all_goals
    go_enter Try.func15, Try.ntmps15
    go_wp2
    refine bodyPost_ret (v := .tuple #[.agg #[.int .i64 _, .int .i64 _, .int .i64 _, .int .i64 _], .int .i64 _]) (by simp [results, Try.results15, go_sem]) rfl ⟨rfl, ?_⟩
    repeat first | exact Below.refl _ _ | apply Below.drew | (refine Below.alloc ?_ (by simp) _) | (refine Below.setCell ?_ (by simp) _)

set_option maxHeartbeats 1000000 in
theorem do_any (b : Nat) (k n o t h g o' t' h' g' r : Int) (w : World) (c : Cr w b o t h g) (ha : Act1 k n o t h g o' t' h' g' r) (h0 : 0 ≤ o) (h1 : 0 ≤ t) (h2 : 0 ≤ h) (hN : o + t + h ≤ 65536) (hg : 0 ≤ g) (hg2 : g ≤ 1000000000) :
    Calls Try.prog 16 #[.pointer (some ⟨b, 0, none⟩), .int .i64 k, .int .i64 n] w (Ends b w (.int .i64 r) o' t' h' g') := by
  rcases ha with ⟨rfl, hn, rfl, rfl, rfl, rfl, rfl⟩ | ⟨rfl, hn, hn2, rfl, rfl, rfl, rfl, rfl⟩ | ⟨rfl, hn, rfl, rfl, rfl, rfl, rfl⟩ | ⟨hk, hk2, hn, rfl, rfl, rfl, rfl, rfl⟩ | ⟨rfl, hn, hn2, rfl, rfl, rfl, rfl, rfl⟩ | ⟨rfl, hn, hn2, rfl, rfl, rfl, rfl, rfl⟩ | ⟨hk, hk2, hn, hn2, rfl, rfl, rfl, rfl, rfl⟩ | ⟨rfl, hn, hn2, rfl, rfl, rfl, rfl, rfl⟩ | ⟨rfl, hn, hn2, rfl, rfl, rfl, rfl, rfl⟩
  · go_enter Try.func16, Try.ntmps16
    go_wp2_with fail
    refine (take_walk b _ _ _ _ n 0 w c (by omega) (by omega) (by omega) (by omega)).mono ?_
    rintro e w1 ⟨rfl, c', h'⟩
    go_wp2
    go_ret
    exact ⟨rfl, c'.is (by omega) (by omega) rfl rfl, h'⟩
  · go_enter Try.func16, Try.ntmps16
    go_wp2_with fail
    refine (take_walk b _ _ _ _ _ _ w c (by omega) (by omega) (by omega) (.inr (.inl ⟨hn, hn2, rfl⟩))).mono ?_
    rintro e w1 ⟨rfl, c', h'⟩
    go_wp2
    go_ret
    exact ⟨rfl, c', h'⟩
  · go_enter Try.func16, Try.ntmps16
    go_wp2_with fail
    refine (take_walk b _ _ _ _ n _ w c (by omega) (by omega) (by omega) (.inr (.inr ⟨hn, rfl⟩))).mono ?_
    rintro e w1 ⟨rfl, c', h'⟩
    go_wp2
    go_ret
    exact ⟨rfl, c'.is (by omega) rfl rfl rfl, h'⟩
  · have hc : k = 1 ∨ k = 2 ∨ k = 3 := by omega
    clear hk hk2
    rcases hc with rfl | rfl | rfl
    all_goals
      go_enter Try.func16, Try.ntmps16
      go_wp2_with fail
      first | (with_reducible refine (use_neg b _ _ _ _ n w c hn).mono ?_) | (with_reducible refine (ret_neg b _ _ _ _ n w c hn).mono ?_) | (with_reducible refine (give_neg b _ _ _ _ n w c hn).mono ?_)
      rintro e w1 ⟨rfl, c', h'⟩
      go_wp2
      go_ret
      exact ⟨rfl, c', h'⟩
  · go_enter Try.func16, Try.ntmps16
    go_wp2_with fail
    refine (give_big b _ _ _ _ n w c hn hn2).mono ?_
    rintro e w1 ⟨rfl, c', h'⟩
    go_wp2
    go_ret
    exact ⟨rfl, c', h'⟩
  · go_enter Try.func16, Try.ntmps16
    go_wp2_with fail
    refine (give_ok b _ _ _ _ n w c hn hn2 (by omega) (by omega) (by omega) (by omega)).mono ?_
    rintro e w1 ⟨rfl, c', h'⟩
    go_wp2
    go_ret
    exact ⟨rfl, c', h'⟩
  · have hc : k = 1 ∨ k = 2 := by omega
    clear hk hk2
    rcases hc with rfl | rfl
    all_goals
      go_enter Try.func16, Try.ntmps16
      go_wp2_with fail
      first | (with_reducible refine (use_big b _ _ _ _ n w c hn hn2).mono ?_) | (with_reducible refine (ret_big b _ _ _ _ n w c hn hn2).mono ?_)
      rintro e w1 ⟨rfl, c', h'⟩
      go_wp2
      go_ret
      exact ⟨rfl, c', h'⟩
  · go_enter Try.func16, Try.ntmps16
    go_wp2_with fail
    refine (use_ok b _ _ _ _ n w c hn hn2 (by omega) (by omega)).mono ?_
    rintro e w1 ⟨rfl, c', h'⟩
    go_wp2
    go_ret
    exact ⟨rfl, c', h'⟩
  · go_enter Try.func16, Try.ntmps16
    go_wp2_with fail
    refine (ret_ok b _ _ _ _ n w c hn hn2 (by omega) (by omega)).mono ?_
    rintro e w1 ⟨rfl, c', h'⟩
    go_wp2
    go_ret
    exact ⟨rfl, c', h'⟩
end Go.Proofs.Ytaffepcpdmhjlaa
