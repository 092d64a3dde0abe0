/-
  The walks of the laws of layer 6, second part.
-/
import Derived.Test.YtfmphffnhmokbaaCrcHelp
namespace Go.Proofs.Ytfmphffnhmokbaa
open Go.RowKit
open CrcMath

set_option maxHeartbeats 1000000 in
theorem crcAhead_walk (n m : Nat) (w : World) (hn : n < 256) (hm : m < 256) :
    Calls Try.prog 9 #[.int .u8 (n : Int), .int .u8 (m : Int)] w fun e w' => e = .returned (.bool true) ∧ Below w.heap.size w w' := by
  have hmk := run_make_row' (P := Try.prog) 22 5 (.int .u8 0) 1 Try.underlying22 infoU8 rfl .i64 .i64 n (by omega) (by omega)
  have hmk2 := run_make_row' (P := Try.prog) 22 5 (.int .u8 0) 1 Try.underlying22 infoU8 rfl .i64 .i64 m (by omega) (by omega)
  obtain ⟨t, ht⟩ : ∃ t : Bool, t = ((n : Int) == (m : Int)) := ⟨_, rfl⟩
  have h2 : (((sum (List.replicate n 0) : Nat) : Int) == ((sum (List.replicate m 0) : Nat) : Int)) = t := by
    rw [ht, Bool.eq_iff_iff, beq_iff_eq, beq_iff_eq, Int.natCast_inj, Int.natCast_inj]
    exact ahead_iff hn hm
  have h3 : ((n : Int) == (m : Int)) = t := ht.symm
  clear ht
  have e1 : IntKind.i64.wrap (n : Int) = (n : Int) := IntWalk.i64_in _ (by omega)
  have e2 : IntKind.i64.wrap (m : Int) = (m : Int) := IntWalk.i64_in _ (by omega)
  go_enter Try.func9, Try.ntmps9
  go_wp2_with fail
  refine (awake_any _).mono ?_
  rintro e w1 ⟨rfl, hb1⟩
  go_wp2_with fail
  go_region_with (go_at_call 12; refine (sum_made _ _ _ (by omega) (by first | exact heap_alloc_new _ _ | exact heap_alloc_snd _ _ _ | exact heap_alloc_fst _ _ _)).mono ?_; rintro e w' ⟨rfl, rfl⟩)
  all_goals
    go_wp2_with fail
    go_ret
    exact ⟨by cases t <;> rfl, ((hb1.alloc hb1.size _).alloc (Nat.le_trans hb1.size (by simp)) _).drew⟩

end Go.Proofs.Ytfmphffnhmokbaa
