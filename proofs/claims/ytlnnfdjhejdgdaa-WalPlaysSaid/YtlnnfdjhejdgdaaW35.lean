/- armoirelaw06.awake is true. -/
import Derived.Test.YtlnnfdjhejdgdaaW34
namespace Go.Proofs.Ytlnnfdjhejdgdaa
open Go.RowKit

set_option maxRecDepth 100000 in
set_option maxHeartbeats 6400000 in
theorem awake_any (w : World) : Calls Try.prog 10 #[] w fun e w' => e = .returned (.bool true) ∧ Below w.heap.size w w' := by
  go_enter Try.func10, Try.ntmps10
  go_wp2_with fail
  refine (dNew_any 100 (by omega) (by omega) w).mono ?_
  rintro e w1 ⟨⟨gd, rfl, hgd, hD1⟩, hb1⟩
  have HOP := Lib.hid (open_op (n := 100) (by omega) hD1 hb1.size)
  clear hD1
  go_wp2_with fail
  refine HOP.out.mono ?_
  rintro e w2 ⟨⟨gl, rfl, hL2⟩, hK2⟩
  have hb2 : Below w.heap.size w w2 := hb1.trans (hK2.below hb1.size fun x hx h => by omega)
  have hcv := conv_const
  have hz2 := hb2.size
  clear HOP hK2
  go_wp2_with fail
  have hB3 : Below w2.heap.size w2 (w2.alloc (.cells #[.int .u8 97] 5 (1, 2))) := (Below.refl _ _).alloc (Nat.le_refl _) _
  refine (append_op (by omega) hL2 hB3 (.slice (some ⟨w2.heap.size, 0, none⟩) 1 1) [97] (marked_rb w2 [97] (by decide) (1, 2) (by omega)) (by decide) (by decide) (by omega) (by omega)).mono ?_
  rintro e w4 ⟨rfl, hL4, hK4⟩
  have hb4 : Below w.heap.size w w4 := (hb2.trans (hB3.mono hz2)).trans (hK4.below (by have := hB3.size; omega) fun x hx h => by omega)
  have hz4 := hb4.size
  clear hK4 hL2 hB3
  go_wp2_with fail
  have hB5 : Below w4.heap.size w4 (w4.alloc (.cells #[.int .u8 98] 5 (1, 2))) := (Below.refl _ _).alloc (Nat.le_refl _) _
  refine (append_op (by omega) hL4 hB5 (.slice (some ⟨w4.heap.size, 0, none⟩) 1 1) [98] (marked_rb w4 [98] (by decide) (1, 2) (by omega)) (by decide) (by decide) (by omega) (by decide)).mono ?_
  rintro e w6 ⟨rfl, hL6, hK6⟩
  have hb6 : Below w.heap.size w w6 := (hb4.trans (hB5.mono hz4)).trans (hK6.below (by have := hB5.size; omega) fun x hx h => by omega)
  have hz6 := hb6.size
  clear hK6 hL4 hB5
  go_wp2_with fail
  refine (sync_op hL6).mono ?_
  rintro e w7 ⟨rfl, hL7, hK7⟩
  have hb7 : Below w.heap.size w w7 := hb6.trans (hK7.below hz6 fun x hx h => by omega)
  have hz7 := hb7.size
  have hcut := Lib.hid (cut_op (by omega) hL7 1 (by omega) (by decide) (by omega) (by omega) (by decide))
  clear hK7 hL6 hL7
  go_wp2_with fail
  refine hcut.out.mono ?_
  rintro e w8 ⟨rfl, hL8, hK8⟩
  have hb8 : Below w.heap.size w w8 := hb7.trans (hK8.below hz7 fun x hx h => by omega)
  have hz8 := hb8.size
  have HRC := Lib.hid (records_op hL8)
  clear hK8 hcut
  go_wp2_with fail
  refine HRC.out.mono ?_
  rintro e w9 ⟨⟨v, rfl, hv⟩, hb9⟩
  have hL9 := hL8.below hb9
  have HF := Lib.hid (first_op hL9)
  change RSl rBs _ w9 v [[98]] at hv
  have hv2 := hv
  obtain ⟨A9, c9, hve, hc9, _⟩ := hv.form
  subst hve
  obtain ⟨b9, off9, c9', cs9, hv9, hb9', ⟨v9, rfl, hr9⟩, hcell9⟩ := hv2.at_ (i := 0) (by decide)
  simp only [Value.slice.injEq] at hv9
  obtain ⟨rfl, _, rfl⟩ := hv9
  obtain ⟨A8, n8, hve8, hc8, _, hrd8, _⟩ := hr9.open_
  subst hve8
  have q9 : w9.cell? ⟨b9, off9, none⟩ = some (.slice A8 1 n8) := hcell9 0 _ rfl
  have hstr : (convert 33 9 (.slice A8 1 n8)).run Try.prog w9 = .ok (.string (str [98])) w9 := run_str 33 9 5 Try.underlying33 (by kernel_rfl) (by kernel_rfl) hrd8
  have hb9f := hb8.trans (hb9.mono hz8)
  clear hv hv2 hcell9 hrd8 hr9 HRC
  rw [show ([[98]] : List (List UInt8)).length = 1 from rfl]
  have hse : ((str [98]).toList == [98]) = true := by kernel_rfl
  go_wp2_with fail
  refine HF.out.mono ?_
  rintro e w10 ⟨rfl, rfl⟩
  go_wp2
  go_ret
  exact ⟨rfl, hb9f⟩
end Go.Proofs.Ytlnnfdjhejdgdaa
