/-
  The law's example.
-/
import Derived.Test.YtmgkomobamjneaaH
import Derived.Lib.SlBytesConst
namespace Go.Proofs.Ytmgkomobamjneaa
open Go.RowKit

theorem below_frm {B : Nat} {w w1 w2 : World} {ok : Nat → Prop} (h : Below B w w1) (hB : B ≤ w1.heap.size) (hf : Frm ok w1 w2) (hm : ∀ k, k < B → ok k) : Below B w w2 := h.trans (hf.below hB hm)

theorem bytes_one {ok : Nat → Prop} {w : World} {b : Nat} {l : List UInt8} {cs : Array Value} {t : TypeId} {fr : Nat × Nat} {cap : Nat} (hb : w.heap[b]? = some (.cells cs t fr)) (hc : cs = (l.map byteVal).toArray) (ho : ok b) (hcap : l.length ≤ cap) (hcap2 : cap ≤ maxLen) :
    Bytes ok w (.slice (some ⟨b, 0, none⟩) l.length cap) l := by
  refine .inr ⟨_, _, rfl, hcap, hcap2, fun _ => ⟨rfl, ho, lt_of_block hb, fun i hi => ?_⟩⟩
  subst hc
  simp [World.cell?, hb, List.getD, hi]

theorem conv_bytes {ok : Nat → Prop} {w : World} {o : Option Addr} {n c : Nat} {l : List UInt8} (h : Bytes ok w (.slice o n c) l) (hn : l.length = n) (h0 : l ≠ []) : (convert 22 9 (.slice o n c)).run Try.prog w = .ok (.string ⟨l.toArray⟩) w := by
  subst hn
  obtain ⟨o', c', e, _, _, h4⟩ := h.form
  obtain ⟨b, off, rfl, _, _, hc⟩ := h4 h0
  cases e
  exact run_convert_bytes_back w 22 9 5 ⟨b, off, none⟩ c l Try.underlying22 Try.underlying5 Try.underlying9 (fun j hj => by
    rw [WideShapes.add_plain, hc j hj]
    simp [byteVal, List.getD, hj])


set_option maxRecDepth 100000 in
set_option maxHeartbeats 1000000 in
theorem wakes_any (w : World) : Calls Try.prog 8 #[] w fun e w' => e = .returned (.bool true) ∧ Below w.heap.size w w' := by
  have kc := fun (w : World) (C : Array Value) (n c : Nat) => Lib.run_convert_bytes_const (P := Try.prog) w 22 5 C n c Try.underlying22 Try.underlying5
  go_enter Try.func8, Try.ntmps8
  go_wp2_with fail
  refine (new_ok 3 w (by decide) (by decide)).mono ?_
  rintro e w1 ⟨b, g, rfl, hb, hg, hr1, hB1⟩
  have hz1 := hB1.size
  have hbd := hr1.bd
  have F2 : Frm (fun _ => True) w1 (w1.alloc (.cells #[.int .u8 97, .int .u8 98, .int .u8 99, .int .u8 100] 5 (4, 5))) := (Frm.refl _ _).alloc _
  have hr2 := hr1.kept F2 trivial trivial
  have hby2 : Bytes (fun q => q = w1.heap.size) (w1.alloc (.cells #[.int .u8 97, .int .u8 98, .int .u8 99, .int .u8 100] 5 (4, 5))) (.slice (some ⟨w1.heap.size, 0, none⟩) 4 4) [97, 98, 99, 100] :=
    bytes_one (l := [97, 98, 99, 100]) (World.alloc_heap_new w1 _) rfl rfl (by decide) (by unfold maxLen; decide)
  have H2 : Calls Try.prog 10 #[.pointer (some ⟨b, 0, none⟩), .slice (some ⟨w1.heap.size, 0, none⟩) 4 4] _ fun e w' => e = .returned (.int .i64 3) ∧ Rng w' b g 3 0 [97, 98, 99] ∧ Frm (fun q => q ≠ b ∧ q ≠ g) _ w' :=
    write_any b g 3 0 [] _ [97, 98, 99, 100] _ hr2 hby2 (fun q hq => by omega) (by decide)
  clear hr2 hby2
  have HR1 := Lib.hid hr1
  clear hr1
  go_wp2_with fail
  refine H2.mono ?_
  rintro e w3 ⟨rfl, hr3, hf3⟩
  have H3 : Calls Try.prog 13 #[.pointer (some ⟨b, 0, none⟩), .int .i64 2] w3 fun e w' => ∃ o c, e = .returned (.slice o 2 c) ∧ w'.ownsRow w3.heap.size 5 1 (.slice o 2 c) 2 (([97, 98] : List UInt8).map byteVal) ∧ Rng w' b g 3 2 [99] ∧ Frm (fun q => q ≠ b) w3 w' :=
    read_any b g 3 0 [97, 98, 99] 2 w3 hr3 (by decide)
  have hz3 := hf3.size
  clear hr3 H2
  go_wp2_with fail
  refine H3.mono ?_
  rintro e w4 ⟨o, c, rfl, hown4, hr4, hf4⟩
  have V4 := conv_bytes (Bytes.of_owns (ok := fun _ => True) hown4 rfl (fun _ _ _ => trivial)) rfl (by simp)
  have F5 : Frm (fun _ => True) w4 (w4.alloc (.cells #[.int .u8 100, .int .u8 101] 5 (2, 3))) := (Frm.refl _ _).alloc _
  have hr5 := hr4.kept F5 trivial trivial
  have hb4 := hr4.bd
  have hby5 : Bytes (fun q => q = w4.heap.size) (w4.alloc (.cells #[.int .u8 100, .int .u8 101] 5 (2, 3))) (.slice (some ⟨w4.heap.size, 0, none⟩) 2 2) [100, 101] :=
    bytes_one (l := [100, 101]) (World.alloc_heap_new w4 _) rfl rfl (by decide) (by unfold maxLen; decide)
  have H5 : Calls Try.prog 10 #[.pointer (some ⟨b, 0, none⟩), .slice (some ⟨w4.heap.size, 0, none⟩) 2 2] _ fun e w' => e = .returned (.int .i64 2) ∧ Rng w' b g 3 2 [99, 100, 101] ∧ Frm (fun q => q ≠ b ∧ q ≠ g) _ w' :=
    write_any b g 3 2 [99] _ [100, 101] _ hr5 hby5 (fun q hq => by omega) (by decide)
  have hz4 := hf4.size
  clear hown4 hr4 hr5 hby5 H3
  go_wp2_with fail
  refine H5.mono ?_
  rintro e w6 ⟨rfl, hr6, hf6⟩
  clear H5 V4
  go_wp2_with fail
  refine (head_any b g 3 2 _ w6 hr6).mono ?_
  rintro e w7 ⟨rfl, rfl⟩
  have hB2 := hB1.alloc hz1 (.cells #[.int .u8 97, .int .u8 98, .int .u8 99, .int .u8 100] 5 (4, 5))
  have hB3 := below_frm hB2 hB2.size hf3 (fun q hq => ⟨by omega, by omega⟩)
  have hB4 := below_frm hB3 hB3.size hf4 (fun q hq => by omega)
  have hB5 := hB4.alloc hB4.size (.cells #[.int .u8 100, .int .u8 101] 5 (2, 3))
  have hB6 := below_frm hB5 hB5.size hf6 (fun q hq => ⟨by omega, by omega⟩)
  clear hr6 hf6 hf4 hf3
  go_wp2
  go_ret
  exact ⟨rfl, hB6⟩
end Go.Proofs.Ytmgkomobamjneaa
