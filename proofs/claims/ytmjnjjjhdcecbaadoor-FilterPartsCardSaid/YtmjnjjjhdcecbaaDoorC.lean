/-
  The contracts of the reference's Small, of octet.Alike and of field.Is.
-/
import Derived.Test.YtmjnjjjhdcecbaaDoorB
import Derived.Maps.AppendAt
namespace Go.Proofs.YtmjnjjjhdcecbaaDoor
open Go.RowKit

/-- A byte as a cell. -/
def byteVal (c : UInt8) : Value := .int .u8 (c.toNat : Int)
theorem Tryd.info5 : (Tryd.prog.info? 5).map (fun i => (i.zero, i.size, i.bytes)) = some (some (.int .u8 0), 1, 1) := by kernel_rfl

/-- The first k bytes in small letters. -/
def lowL (s : ByteArray) (k : Nat) : List UInt8 := (s.data.toList.take k).map low
theorem lowL_succ (s : ByteArray) (k : Nat) (h : k < s.size) : lowL s (k + 1) = lowL s k ++ [low (s.data.toList.getD k 0)] := by
  have h' : k < s.data.toList.length := by simpa using h
  unfold lowL
  rw [List.take_succ_eq_append_getElem h', List.map_append]
  simp [List.getD, List.getElem?_eq_getElem h']
theorem lowL_all (s : ByteArray) : lowL s s.size = s.data.toList.map low := by
  unfold lowL
  rw [List.take_of_length_le (by simp)]
theorem lowL_len (s : ByteArray) (k : Nat) (h : k ≤ s.size) : (lowL s k).length = k := by
  have h' : s.data.toList.length = s.size := by simp
  unfold lowL
  simp
  omega

theorem owns_string {P : Program} {w : World} {B : Nat} {v : Value} {l : List UInt8} {n : Nat} (h : w.ownsRow B 5 1 v n (l.map byteVal)) (hn : n = l.length) (src dst : TypeId) (hs : P.underlying src = some (.slice 5)) (he : P.underlying 5 = some (.int .u8)) (hd : P.underlying dst = some .string) :
    (convert src dst v).run P w = .ok (.string ⟨l.toArray⟩) w := by
  subst hn
  obtain ⟨h1, h2⟩ := h
  rcases h2 with ⟨rfl, h2⟩ | ⟨g, cap, cur, rfl, h3, h4, h5, h6, h7, h8⟩
  · have : l = [] := List.length_eq_zero_iff.1 h2
    subst this
    have := run_convert_bytes_nil (P := P) w src 5 hs he 0 0 dst hd
    rw [this]
    rfl
  · exact run_convert_bytes_back (P := P) w src dst 5 ⟨g, 0, none⟩ cap l hs he hd (fun j hj => by
      rw [show (⟨g, 0, none⟩ : Addr).add j = ⟨g, j, none⟩ by unfold Addr.add; split <;> simp_all]
      have : cur[j]? = some (byteVal l[j]) := by
        have e : (cur.toList.take (l.length * 1))[j]? = (l.map byteVal)[j]? := by rw [h8]
        rw [List.getElem?_take, if_pos (by omega)] at e
        simpa [hj] using e
      simp [World.cell?, h4, this, byteVal])

set_option maxHeartbeats 400000 in
theorem rsmall_any (s : ByteArray) (w : World) (hs : s.size ≤ 140737488351232) :
    Calls Tryd.prog 19 #[.string s] w fun e w' => e = .returned (.string (small s)) ∧ Below w.heap.size w w' := by
  obtain ⟨i0, hi, hz0, hz1, hz2⟩ := info_parts Tryd.info5
  go_enter Tryd.func19, Tryd.ntmps19
  go_wp2
  go_loopw [3, 4] (fun v i wr => ∃ k : Nat, i = .int .i64 k ∧ k ≤ s.size ∧ wr.ownsRow w.heap.size 5 1 v k ((lowL s k).map byteVal) ∧ Below w.heap.size w wr) (fun _ i _ => s.size - (intOf i).toNat)
  case atStart => exact ⟨0, rfl, Nat.zero_le _, World.ownsRow_nil _ _ _ _, Below.refl _ _⟩
  case round =>
    obtain ⟨k, rfl, hk, hown, hb⟩ := hrel
    by_cases hlt : k < s.size
    · have hsz := hb.size
      have hln := low_toNat (s.data.toList.getD k 0)
      have hsu := lowL_succ s k hlt
      have hgd : s.data.toList.getD k 0 = s[k] := by
        simp [List.getD, List.getElem?_eq_getElem (show k < s.data.toList.length by simpa using hlt)]
        rfl
      rw [hgd] at hln hsu
      have H := Lib.hid hsu
      clear hsu hgd
      by_cases hup : 65 ≤ ((s[k]).toNat : Int) ∧ ((s[k]).toNat : Int) ≤ 90
      · rw [if_pos hup] at hln
        have H2 := Lib.hid hln
        obtain ⟨u1, u2⟩ := hup
        clear hln
        go_wp2_with (at_builtin; refine wpList_append_own _ rfl _ _ 45 rfl w.heap.size 5 i0 (.int .u8 0) 1 1 Tryd.underlying45 hi hz0 hz1 hz2 rfl (by decide) _ _ _ rfl (hown.alloc _) ⟨wr.heap.size, 0, none⟩ 1 1 [.int .u8 ((s[k]).toNat + 32)] rfl rfl (cell_one_new _ _ _) (by simp [Value.oneCell']) (by unfold maxLen; omega) (by omega) (by simp; omega) ?_)
        intro v' w1 hown' hgrow _
        have hbw : Below w.heap.size w w1 := (hb.alloc hsz _).grown hgrow (by simp; omega) (fun j hj => (hown.lt j hj).1)
        go_wp2
        go_roundw
        case rel => exact ⟨k + 1, by go_num, by omega, by rw [H.out, List.map_append]; simpa [byteVal, H2.out] using hown', hbw⟩
        case measure => simp [intOf]; omega
      · rw [if_neg hup] at hln
        have H2 := Lib.hid hln
        clear hln
        have hup' : ¬ 65 ≤ ((s[k]).toNat : Int) ∨ 65 ≤ ((s[k]).toNat : Int) ∧ ¬ ((s[k]).toNat : Int) ≤ 90 := by omega
        clear hup
        rcases hup' with u1 | ⟨u1, u2⟩
        all_goals
          go_wp2_with (at_builtin; refine wpList_append_own _ rfl _ _ 45 rfl w.heap.size 5 i0 (.int .u8 0) 1 1 Tryd.underlying45 hi hz0 hz1 hz2 rfl (by decide) _ _ _ rfl (hown.alloc _) ⟨wr.heap.size, 0, none⟩ 1 1 [.int .u8 (s[k]).toNat] rfl rfl (cell_one_new _ _ _) (by simp [Value.oneCell']) (by unfold maxLen; omega) (by omega) (by simp; omega) ?_)
          intro v' w1 hown' hgrow _
          have hbw : Below w.heap.size w w1 := (hb.alloc hsz _).grown hgrow (by simp; omega) (fun j hj => (hown.lt j hj).1)
          go_wp2
          go_roundw
          case rel => exact ⟨k + 1, by go_num, by omega, by rw [H.out, List.map_append]; simpa [byteVal, H2.out] using hown', hbw⟩
          case measure => simp [intOf]; omega
    · obtain rfl : k = s.size := by omega
      rw [lowL_all] at hown
      have hback := owns_string (P := Tryd.prog) hown (by simp) 45 9 Tryd.underlying45 Tryd.underlying5 Tryd.underlying9
      go_wp2
      go_ret
      exact ⟨rfl, hb⟩
end Go.Proofs.YtmjnjjjhdcecbaaDoor
