/-
  Calls of a ring in memory; the contract of long.
-/
import Derived.Test.YtmgkomobamjneaaM
namespace Go.Proofs.Ytmgkomobamjneaa
open Go.RowKit

/-- The slice v reads as calls: a kind, bytes, a number; the cells lie in blocks in 'ok'. -/
def Opsv (ok : Nat → Prop) (w : World) (v : Value) (L : List (Int × List UInt8 × Int)) : Prop :=
  ∃ o cap, v = .slice o L.length cap ∧ L.length ≤ cap ∧ cap ≤ maxLen ∧
    (L ≠ [] → ∃ b off, o = some ⟨b, off, none⟩ ∧ ok b ∧ b < w.heap.size ∧ ∀ i, i < L.length → w.cell? ⟨b, off + i * 3, none⟩ = some (.int .u8 (L.getD i (0, [], 0)).1) ∧
      ∃ vi, w.cell? ⟨b, off + i * 3 + 1, none⟩ = some vi ∧ Bytes ok w vi (L.getD i (0, [], 0)).2.1 ∧ w.cell? ⟨b, off + i * 3 + 2, none⟩ = some (.int .i64 (L.getD i (0, [], 0)).2.2))

/-- What long comes to. -/
def LongTold (w : World) (L : List (Int × List UInt8 × Int)) (e : Ending) (w' : World) : Prop := (∃ B, e = .returned (.bool B) ∧ (B = false → L.length ≤ 20)) ∧ Below w.heap.size w w'

set_option maxHeartbeats 2000000 in
theorem long_any (v : Value) (L : List (Int × List UInt8 × Int)) (w W : World) (h : Opsv (fun q => q < w.heap.size) w v L) (hb : Below w.heap.size w W) (hl : ∀ i, i < L.length → (L.getD i (0, [], 0)).2.1.length ≤ 140737488351232) :
    Calls Try.prog 20 #[v] W (LongTold w L) := by
  obtain ⟨o, cap, rfl, hc1, hc2, h4⟩ := h
  unfold maxLen at hc2
  have H4 := Lib.hid h4
  have HL := Lib.hid hl
  clear h4 hl
  by_cases h20 : L.length ≤ 20
  · have HE := Lib.hid (fun B w' (hb' : Below w.heap.size w w') => (⟨⟨B, rfl, fun _ => h20⟩, hb'⟩ : LongTold w L (.returned (.bool B)) w'))
    go_enter Try.func20, Try.ntmps20
    go_wp2_with fail
    go_loopw [3, 8] (fun n i wr => ∃ k s : Nat, i = .int .i64 k ∧ n = .int .i64 s ∧ k ≤ L.length ∧ s ≤ k * 140737488351232 ∧ Below w.heap.size w wr) (fun _ i _ => L.length - (intOf i).toNat)
    case atStart => exact ⟨0, 0, rfl, rfl, Nat.zero_le _, by omega, hb⟩
    case round =>
      obtain ⟨k, s, rfl, rfl, hk, hs, hbr⟩ := hrel
      by_cases hlt : k < L.length
      · have hl0 : L ≠ [] := by intro e; rw [e] at hlt; simp at hlt
        obtain ⟨b, off, rfl, _, hbs, hc⟩ := H4.out hl0
        obtain ⟨hk0, vi, hk1, hby, hk2⟩ := hc k hlt
        have c0 := (hbr.cell (p := ⟨b, off + k * 3, none⟩) hbs).trans hk0
        have c1 := (hbr.cell (p := ⟨b, off + k * 3 + 1, none⟩) hbs).trans hk1
        have c2 := (hbr.cell (p := ⟨b, off + k * 3 + 2, none⟩) hbs).trans hk2
        obtain ⟨ov, cv, rfl, q1, q2, _⟩ := hby.form
        unfold maxLen at q2
        have hp := HL.out k hlt
        generalize (L.getD k (0, [], 0)).2.1 = l at *
        generalize (L.getD k (0, [], 0)).1 = kd at *
        generalize (L.getD k (0, [], 0)).2.2 = nn at *
        clear hc hk0 hk1 hk2 hby
        have hba : ∀ o, Below w.heap.size w (wr.alloc o) := fun o => hbr.alloc hbr.size o
        have HBA := Lib.hid hba
        clear hba
        go_wp2
        go_roundw
        case rel => exact ⟨k + 1, s + l.length, by go_num, by go_num, by omega, by omega, HBA.out _⟩
        case measure => simp [intOf]; omega
      · obtain rfl : k = L.length := by omega
        by_cases h5 : (500 : Int) < (s : Int)
        · go_wp2
          go_ret
          exact HE.out _ _ hbr
        · have h6 : ¬ (20 : Int) < (L.length : Int) := by omega
          go_wp2
          go_ret
          exact HE.out _ _ hbr
  · have h21 : (20 : Int) < (L.length : Int) := by omega
    have HE := Lib.hid (fun w' (hb' : Below w.heap.size w w') => (⟨⟨true, rfl, fun h => by cases h⟩, hb'⟩ : LongTold w L (.returned (.bool true)) w'))
    go_enter Try.func20, Try.ntmps20
    go_wp2_with fail
    go_loopw [3, 8] (fun n i wr => ∃ k : Nat, ∃ s : Int, i = .int .i64 k ∧ n = .int .i64 s ∧ k ≤ L.length ∧ Below w.heap.size w wr) (fun _ i _ => L.length - (intOf i).toNat)
    case atStart => exact ⟨0, 0, rfl, rfl, Nat.zero_le _, hb⟩
    case round =>
      obtain ⟨k, s, rfl, rfl, hk, hbr⟩ := hrel
      by_cases hlt : k < L.length
      · have hl0 : L ≠ [] := by intro e; rw [e] at hlt; simp at hlt
        obtain ⟨b, off, rfl, _, hbs, hc⟩ := H4.out hl0
        obtain ⟨hk0, vi, hk1, hby, hk2⟩ := hc k hlt
        have c0 := (hbr.cell (p := ⟨b, off + k * 3, none⟩) hbs).trans hk0
        have c1 := (hbr.cell (p := ⟨b, off + k * 3 + 1, none⟩) hbs).trans hk1
        have c2 := (hbr.cell (p := ⟨b, off + k * 3 + 2, none⟩) hbs).trans hk2
        obtain ⟨ov, cv, rfl, q1, q2, _⟩ := hby.form
        unfold maxLen at q2
        generalize (L.getD k (0, [], 0)).2.1 = l at *
        generalize (L.getD k (0, [], 0)).1 = kd at *
        generalize (L.getD k (0, [], 0)).2.2 = nn at *
        clear hc hk0 hk1 hk2 hby
        have hba : ∀ o, Below w.heap.size w (wr.alloc o) := fun o => hbr.alloc hbr.size o
        have HBA := Lib.hid hba
        clear hba
        go_wp2
        go_roundw
        case rel => exact ⟨k + 1, _, by go_num, rfl, by omega, HBA.out _⟩
        case measure => simp [intOf]; omega
      · obtain rfl : k = L.length := by omega
        by_cases h5 : (500 : Int) < s
        · go_wp2
          go_ret
          exact HE.out _ hbr
        · go_wp2
          go_ret
          exact HE.out _ hbr
end Go.Proofs.Ytmgkomobamjneaa
