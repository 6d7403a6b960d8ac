/-
  The contracts of filter.Keep, Drop, Count.
-/
import Derived.Test.YtmjnjjjhdcecbaaDoorParted
namespace Go.Proofs.YtmjnjjjhdcecbaaDoor
open Go.RowKit

section
variable {ok : Nat → Prop} (v : Value) (L : List Fd) (w : World) (h : Flds ok w v L) (hl : ∀ f ∈ L, f.1.size ≤ 140737488351232) (hL : L.length ≤ 100000) (he : Ends w) (hT : Tab w) (h2 : 1 < w.heap.size)
include h hl hL he hT h2

theorem keep_any : Calls Tryd.prog 14 #[v] w fun e w' => ∃ o c, e = .returned (.slice o (pick false L).length c) ∧ w'.ownsRow w.heap.size 42 2 (.slice o (pick false L).length c) (pick false L).length (flat (pick false L)) ∧ Below w.heap.size w w' := by
  have hP := parted_any v L w (h.mono (fun _ _ _ => trivial)) hl hL he hT h2
  clear h hl he hT
  go_enter Tryd.func14, Tryd.ntmps14
  go_wp2_with fail
  refine hP.mono ?_
  rintro e w1 ⟨kv, dv, rfl, hk, _, hb⟩
  obtain ⟨o, c, rfl⟩ := owns_form hk
  have HK := Lib.hid hk
  clear hk
  go_wp2
  go_ret
  exact ⟨o, c, rfl, HK.out, hb⟩

theorem drop_any : Calls Tryd.prog 15 #[v] w fun e w' => ∃ o c, e = .returned (.slice o (pick true L).length c) ∧ w'.ownsRow w.heap.size 42 2 (.slice o (pick true L).length c) (pick true L).length (flat (pick true L)) ∧ Below w.heap.size w w' := by
  have hP := parted_any v L w (h.mono (fun _ _ _ => trivial)) hl hL he hT h2
  clear h hl he hT
  go_enter Tryd.func15, Tryd.ntmps15
  go_wp2_with fail
  refine hP.mono ?_
  rintro e w1 ⟨kv, dv, rfl, _, hk, hb⟩
  obtain ⟨o, c, rfl⟩ := owns_form hk
  have HK := Lib.hid hk
  clear hk
  go_wp2
  go_ret
  exact ⟨o, c, rfl, HK.out, hb⟩

theorem count_any : Calls Tryd.prog 16 #[v] w fun e w' => e = .returned (.tuple #[.int .i64 (pick false L).length, .int .i64 (pick true L).length]) ∧ Below w.heap.size w w' := by
  have hP := parted_any v L w (h.mono (fun _ _ _ => trivial)) hl hL he hT h2
  clear h hl he hT
  go_enter Tryd.func16, Tryd.ntmps16
  go_wp2_with fail
  refine hP.mono ?_
  rintro e w1 ⟨kv, dv, rfl, hk, hd, hb⟩
  obtain ⟨o, c, rfl⟩ := owns_form hk
  obtain ⟨o', c', rfl⟩ := owns_form hd
  clear hk hd
  go_wp2
  go_ret2
  exact ⟨rfl, hb⟩
end
end Go.Proofs.YtmjnjjjhdcecbaaDoor
