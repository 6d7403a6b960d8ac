/-
  A drain in memory; the contracts of wire's drains.
-/
import Derived.Test.YtellnnkgfjhmpaaG
import Derived.RegionCalls
import Derived.Deep.RegionWith
namespace Go.Proofs.Ytellnnkgfjhmpaa
open Go.RowKit

/-- A drain: its struct in block b; its numbers read as T, their row in M; what it got, the slice gv, of its own cells from 'base' on. -/
def Drn (w : World) (b base : Nat) (M : Nat → Prop) (gv : Value) (T : List Int) (en : Int) (G : List UInt8) (cl go : Bool) : Prop :=
  ∃ tv, w.heap[b]? = some (.cells #[tv, .int .i64 en, gv, .bool cl, .bool go] 74 (0, 0)) ∧ Ints (fun q => M q ∧ q ≠ b ∧ some q ≠ gv.ownBlock) w tv T ∧ w.ownsRow base 5 1 gv G.length (G.map byteVal) ∧ gv.ownBlock ≠ some b
theorem Drn.kept {w w' : World} {b base : Nat} {M : Nat → Prop} {gv : Value} {T : List Int} {en : Int} {G : List UInt8} {cl go : Bool} {ok : Nat → Prop} (h : Drn w b base M gv T en G cl go) (hf : Frm ok w w') (hb : ok b) (hm : ∀ k, M k → k < w.heap.size → ok k) (hg : ∀ k, gv.ownBlock = some k → ok k) :
    Drn w' b base M gv T en G cl go := by
  obtain ⟨tv, h1, h2, h3, h4⟩ := h
  exact ⟨tv, frm_block hf h1 hb, h2.kept hf (fun k hk hq => hm k hq.1 hk), owns_frm h3 hf hg, h4⟩
theorem Drn.row {w : World} {b base : Nat} {M : Nat → Prop} {gv : Value} {T : List Int} {en : Int} {G : List UInt8} {cl go : Bool} (h : Drn w b base M gv T en G cl go) :
    ∃ o c og cg, gv = .slice og G.length cg ∧ w.heap[b]? = some (.cells #[.slice o T.length c, .int .i64 en, .slice og G.length cg, .bool cl, .bool go] 74 (0, 0)) ∧ T.length ≤ c ∧ c ≤ maxLen := by
  obtain ⟨tv, h1, h2, h3, _⟩ := h
  obtain ⟨o, c, rfl, hc, hm, _⟩ := h2.form
  rcases h3.2 with ⟨rfl, h0⟩ | ⟨g, cap, cur, rfl, _⟩
  · rw [← h0] at h1 ⊢
    exact ⟨o, c, none, 0, by rw [h0], by rw [h0] at h1 ⊢; exact h1, hc, hm⟩
  · exact ⟨o, c, _, _, rfl, h1, hc, hm⟩

theorem state_any (b base : Nat) (M : Nat → Prop) (gv : Value) (T : List Int) (en : Int) (G : List UInt8) (cl go : Bool) (w : World) (h : Drn w b base M gv T en G cl go) :
    Calls Try.prog 29 #[.pointer (some ⟨b, 0, none⟩)] w fun e w' => e = .returned (.int .i64 (if cl then 8 else if go then 9 else 0)) ∧ w = w' := by
  obtain ⟨o, c, og, cg, rfl, hr, _, _⟩ := h.row
  have c3 : w.cell? ⟨b, 3, none⟩ = some (.bool cl) := by simp [World.cell?, hr]
  have c4 : w.cell? ⟨b, 4, none⟩ = some (.bool go) := by simp [World.cell?, hr]
  rcases cl with _ | _
  · rcases go with _ | _
    · go_enter Try.func29, Try.ntmps29
      go_wp2
      go_ret
      exact ⟨rfl, rfl⟩
    · go_enter Try.func29, Try.ntmps29
      go_wp2
      go_ret
      exact ⟨rfl, rfl⟩
  · go_enter Try.func29, Try.ntmps29
    go_wp2
    go_ret
    exact ⟨rfl, rfl⟩

theorem closed_any (b base : Nat) (M : Nat → Prop) (gv : Value) (T : List Int) (en : Int) (G : List UInt8) (cl go : Bool) (w : World) (h : Drn w b base M gv T en G cl go) :
    Calls Try.prog 23 #[.pointer (some ⟨b, 0, none⟩)] w fun e w' => e = .returned (.bool cl) ∧ w = w' := by
  obtain ⟨o, c, og, cg, rfl, hr, _, _⟩ := h.row
  have c3 : w.cell? ⟨b, 3, none⟩ = some (.bool cl) := by simp [World.cell?, hr]
  go_enter Try.func23, Try.ntmps23
  go_wp2
  go_ret
  exact ⟨rfl, rfl⟩

theorem got_any (b base : Nat) (M : Nat → Prop) (gv : Value) (T : List Int) (en : Int) (G : List UInt8) (cl go : Bool) (w : World) (h : Drn w b base M gv T en G cl go) (hl : G.length ≤ 10000) :
    Calls Try.prog 18 #[.pointer (some ⟨b, 0, none⟩)] w fun e w' => ∃ o' c', e = .returned (.slice o' G.length c') ∧ w'.ownsRow w.heap.size 5 1 (.slice o' G.length c') G.length (G.map byteVal) ∧ Below w.heap.size w w' := by
  obtain ⟨_, _, _, hown, _⟩ := id h
  obtain ⟨o, c, og, cg, rfl, hr, _, _⟩ := h.row
  have c3 : w.cell? ⟨b, 2, none⟩ = some (.slice og G.length cg) := by simp [World.cell?, hr]
  have hb : Bytes (fun _ => True) w (.slice og G.length cg) G := Bytes.of_owns hown rfl (fun _ _ _ => trivial)
  have HB := Lib.hid hb
  clear hb hown h
  go_enter Try.func18, Try.ntmps18
  go_wp2_with fail
  refine (clone_any _ G w HB.out (by omega)).mono ?_
  rintro e w1 ⟨o', c', rfl, h1, h2⟩
  go_wp2
  go_ret
  exact ⟨o', c', rfl, h1, h2⟩

theorem Drn.close {w : World} {b base : Nat} {M : Nat → Prop} {gv : Value} {T : List Int} {en : Int} {G : List UInt8} {cl go : Bool} (h : Drn w b base M gv T en G cl go) (cl' : Bool) :
    Drn (w.setCell ⟨b, 3, none⟩ (.bool cl')) b base M gv T en G cl' go := by
  obtain ⟨tv, h1, h2, h3, h4⟩ := h
  have hF : Frm (fun q => q ≠ b) w (w.setCell ⟨b, 3, none⟩ (.bool cl')) := (Frm.refl _ _).setCell _ _ _ (fun _ h => h rfl)
  exact ⟨tv, row_setCell' h1, h2.kept hF (fun k _ hq => hq.2.1), owns_frm h3 hF (fun q hq e => h4 (by rw [hq, e])), h4⟩

set_option maxHeartbeats 400000 in
theorem close_any (b base : Nat) (M : Nat → Prop) (gv : Value) (T : List Int) (en : Int) (G : List UInt8) (cl go : Bool) (w : World) (h : Drn w b base M gv T en G cl go) :
    Calls Try.prog 21 #[.pointer (some ⟨b, 0, none⟩)] w fun e w' => e = .returned (.int .i64 (if cl then 8 else if go then 9 else 0)) ∧ Drn w' b base M gv T en G (cl || !go) go ∧ Frm (fun q => q ≠ b) w w' := by
  obtain ⟨o, c, og, cg, rfl, hr, _, _⟩ := h.row
  have c3 : w.cell? ⟨b, 3, none⟩ = some (.bool cl) := by simp [World.cell?, hr]
  have f3 : w.frozen? ⟨b, 3, none⟩ = false := by simp [World.frozen?, hr]
  have hF : ∀ v, Frm (fun q => q ≠ b) w (w.setCell ⟨b, 3, none⟩ v) := fun v => (Frm.refl _ _).setCell _ _ _ (fun _ h => h rfl)
  have hC := h.close
  have HF := Lib.hid hF
  have HC := Lib.hid hC
  have HS := state_any b base M _ T en G cl go w h
  clear hF hC
  rcases cl with _ | _
  · rcases go with _ | _
    · go_enter Try.func21, Try.ntmps21
      go_wp2_with fail
      refine HS.mono ?_
      rintro e w1 ⟨rfl, rfl⟩
      go_wp2
      go_ret
      exact ⟨rfl, HC.out true, HF.out _⟩
    · go_enter Try.func21, Try.ntmps21
      go_wp2_with fail
      refine HS.mono ?_
      rintro e w1 ⟨rfl, rfl⟩
      go_wp2
      go_ret
      exact ⟨rfl, HC.out false, HF.out _⟩
  · go_enter Try.func21, Try.ntmps21
    go_wp2_with fail
    refine HS.mono ?_
    rintro e w1 ⟨rfl, rfl⟩
    go_wp2
    go_ret
    exact ⟨rfl, HC.out true, HF.out _⟩
end Go.Proofs.Ytellnnkgfjhmpaa
