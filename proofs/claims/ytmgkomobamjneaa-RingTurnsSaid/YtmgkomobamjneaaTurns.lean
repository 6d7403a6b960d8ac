/-
  The walk of RingTurns.
-/
import Derived.Test.YtmgkomobamjneaaL
namespace Go.Proofs.Ytmgkomobamjneaa
open Go.RowKit

theorem byte_nat {k : Nat} (h : k < 256) : ((UInt8.ofNat k).toNat : Int) = (k : Int) := by
  rw [UInt8.toNat_ofNat']
  omega

theorem write_one (b g S h q k : Nat) (w : World) (hr : Rng w b g S h []) (hq : w.heap[q]? = some (.cells #[.int .u8 k] 5 (0, 0))) (hqg : q ≠ g) (hk : k < 256) :
    Calls Try.prog 10 #[.pointer (some ⟨b, 0, none⟩), .slice (some ⟨q, 0, none⟩) 1 1] w fun e w' => e = .returned (.int .i64 1) ∧ Rng w' b g S h [UInt8.ofNat k] ∧ Frm (fun q => q ≠ b ∧ q ≠ g) w w' := by
  have hb := hr.bd
  have hby : Bytes (fun x => x = q) w (.slice (some ⟨q, 0, none⟩) 1 1) [UInt8.ofNat k] := bytes_one (l := [UInt8.ofNat k]) hq (by rw [List.map_cons, List.map_nil, byteVal, byte_nat hk]) rfl (by simp) (by unfold maxLen; decide)
  have H := write_any b g S h [] _ [UInt8.ofNat k] w hr hby (fun x hx => by subst hx; exact hqg) (by simp)
  have e : room S ([] : List UInt8).length [UInt8.ofNat k].length = 1 := by unfold room; simp; omega
  rw [e] at H
  exact H

theorem read_one (b g S h k : Nat) (w : World) (hr : Rng w b g S h [UInt8.ofNat k]) (hk : k < 256) :
    Calls Try.prog 13 #[.pointer (some ⟨b, 0, none⟩), .int .i64 1] w fun e w' => ∃ q c, e = .returned (.slice (some ⟨q, 0, none⟩) 1 c) ∧ w'.cell? ⟨q, 0, none⟩ = some (.int .u8 k) ∧ 1 ≤ c ∧ Rng w' b g S (ix S (h + 1)) [] ∧ Frm (fun q => q ≠ b) w w' := by
  refine (read_any b g S h [UInt8.ofNat k] 1 w hr (by decide)).mono ?_
  have e : cut 1 [UInt8.ofNat k].length = 1 := rfl
  rw [e]
  rintro e w' ⟨o, c, rfl, hown, hr', hf⟩
  obtain ⟨o', c', e, h1, h2, h4⟩ := (Bytes.of_owns (ok := fun _ => True) (l := [UInt8.ofNat k]) hown rfl (fun _ _ _ => trivial)).form
  cases e
  rcases hown.2 with ⟨h, _⟩ | ⟨q, cap, cur, h, _⟩
  · cases h
  · cases h
    obtain ⟨_, _, e, _, _, hc⟩ := h4 (by simp)
    cases e
    refine ⟨q, c, rfl, ?_, h1, hr', hf⟩
    have := hc 0 (by simp)
    rw [show ([UInt8.ofNat k] : List UInt8).getD 0 0 = UInt8.ofNat k from rfl, byteVal, byte_nat hk] at this
    exact this

theorem ix_turn (S k : Nat) (h : 0 < S) : ix S (k % S + 1) = (k + 1) % S := by
  have := Nat.mod_lt k h
  rw [← ix_mod (by omega), Nat.mod_add_mod]

set_option maxRecDepth 100000 in
set_option maxHeartbeats 4000000 in
theorem ringTurns_any (n k : Int) (w : World) (hn0 : 0 ≤ n) (hn1 : n ≤ 255) (hk0 : 0 ≤ k) (hk1 : k ≤ 65535) :
    Calls Try.prog 5 #[.int .u8 n, .int .u16 k] w fun e w' => e = .returned (.bool true) ∧ Below w.heap.size w w' := by
  obtain ⟨n, rfl⟩ := Int.eq_ofNat_of_zero_le hn0
  obtain ⟨k, rfl⟩ := Int.eq_ofNat_of_zero_le hk0
  obtain ⟨S, hS⟩ : ∃ S, S = n % 20 + 1 := ⟨_, rfl⟩
  have e1 : (n : Int) % 20 + 1 = (S : Int) := by omega
  have hS1 : 1 ≤ S ∧ S ≤ 20 := by omega
  clear hS
  go_enter Try.func5, Try.ntmps5
  go_wp2_with fail
  refine (wakes_any _).mono ?_
  rintro e w1 ⟨rfl, hB1⟩
  go_wp2_with fail
  refine (new_ok S w1 (by omega) (by omega)).mono ?_
  rintro e w2 ⟨b, g, rfl, hb, hg, hr2, hB2⟩
  have hB12 := hB1.trans (hB2.mono hB1.size)
  have hz12 := hB12.size
  have hz1 := hB1.size
  have HR2 := Lib.hid hr2
  clear hr2
  go_wp2_with fail
  go_loopw [30] (fun i wr => ∃ j : Nat, i = .int .i64 j ∧ j ≤ k % 200 ∧ Rng wr b g S (j % S) [] ∧ Below w.heap.size w wr) (fun i _ => k % 200 - (intOf i).toNat)
  case atStart => exact ⟨0, rfl, Nat.zero_le _, by rw [Nat.zero_mod]; exact HR2.out, hB12⟩
  case round =>
    obtain ⟨j, rfl, hj, hrj, hbr⟩ := hrel
    by_cases hlt : (j : Int) < (k : Int) % 200
    · have hwj : IntKind.u8.wrap (j : Int) = (j : Int) := by simp [IntKind.wrap, IntKind.signed, IntKind.bits]; omega
      have hmj : (j : Int).tmod (S : Int) = ((j % S : Nat) : Int) := by rw [Int.tmod_eq_emod_of_nonneg (by omega)]; rfl
      have htn := ix_turn S j (by omega)
      have hne : ¬ S = 0 := by omega
      have hms : j % S < S := Nat.mod_lt _ (by omega)
      have hbd := hrj.bd
      have F3 : Frm (fun _ => True) wr (wr.alloc (.cells #[.int .u8 j] 5)).drew := ((Frm.refl _ _).alloc _).drew
      have hr3 := hrj.kept F3 trivial trivial
      have hq3 : (wr.alloc (.cells #[.int .u8 j] 5)).drew.heap[wr.heap.size]? = some (.cells #[.int .u8 j] 5 (0, 0)) := World.alloc_heap_new wr _
      have hW := write_one b g S (j % S) wr.heap.size j _ hr3 hq3 (by omega) (by omega)
      have HTN := Lib.hid htn
      generalize j % S = hd at *
      have HW := Lib.hid hW
      have HF3 := Lib.hid F3
      clear hr3 hq3 htn hW F3 hrj
      go_wp2_with fail
      go_region_held3 (fun _ => True) (trivial)
        (first
          | (go_at_call 10; refine HW.out.mono ?_; rintro e w4 ⟨rfl, hr4, hf4⟩)
          | (go_at_call 18; refine (head_any b g S hd _ w4 hr4).mono ?_; rintro e w5 ⟨rfl, rfl⟩))
      have hB4 := (below_frm hbr hbr.size HF3.out (fun _ _ => trivial))
      have hB5 := below_frm hB4 hB4.size hf4 (fun q hq => ⟨by omega, by omega⟩)
      have hz5 := hB5.size
      have HR4 := Lib.hid hr4
      clear hr4 hf4
      go_wp2_with fail
      refine (read_one b g S hd j w4 HR4.out (by omega)).mono ?_
      rintro e w6 ⟨q, c, rfl, hc6, hc1, hr6, hf6⟩
      rw [HTN.out] at hr6
      have hB6 := below_frm hB5 hB5.size hf6 (fun q hq => by omega)
      have HR6 := Lib.hid hr6
      clear hr6 hf6
      go_wp2
      go_roundw
      case rel => exact ⟨j + 1, by go_num, by omega, HR6.out, hB6⟩
      case measure => simp [intOf]; omega
    · go_wp2_with fail
      refine (len_any b g S _ [] wr hrj).mono ?_
      rintro e w4 ⟨rfl, rfl⟩
      go_wp2
      go_ret
      exact ⟨rfl, hbr⟩
end Go.Proofs.Ytmgkomobamjneaa
