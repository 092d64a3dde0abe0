/-
  The walks of the laws of layer 6, third part.
-/
import Derived.Test.YtfmphffnhmokbaaCrcHelp
namespace Go.Proofs.Ytfmphffnhmokbaa
open Go.RowKit
open CrcMath

theorem txt_lit4 (W : World) (i0 i1 i2 i3 : Int) (c0 c1 c2 c3 : Nat) (h0 : i0 = (c0 : Int)) (h1 : i1 = (c1 : Int)) (h2 : i2 = (c2 : Int)) (h3 : i3 = (c3 : Int)) (k0 : c0 < 256) (k1 : c1 < 256) (k2 : c2 < 256) (k3 : c3 < 256) :
    Txt (W.alloc (.cells #[.int .u8 i0, .int .u8 i1, .int .u8 i2, .int .u8 i3] 5)) (some ⟨W.heap.size, 0, none⟩) [c0, c1, c2, c3] := by
  subst h0 h1 h2 h3
  refine Txt.of_at (by simp [k0, k1, k2, k3]) fun _ => ⟨_, _, rfl, fun j u hj => ?_⟩
  rw [World.cell?_alloc_new]
  match j, hj with
  | 0, hj | 1, hj | 2, hj | 3, hj => simp at hj; subst hj; rfl
  | n + 4, hj => simp at hj

theorem update_lit4 (W : World) (s : Nat) (i0 i1 i2 i3 : Int) (c0 c1 c2 c3 : Nat) (hs : s < 4294967296) (h0 : i0 = (c0 : Int)) (h1 : i1 = (c1 : Int)) (h2 : i2 = (c2 : Int)) (h3 : i3 = (c3 : Int)) (k0 : c0 < 256) (k1 : c1 < 256) (k2 : c2 < 256) (k3 : c3 < 256) :
    Calls Try.prog 14 #[.int .u32 (s : Int), .slice (some ⟨W.heap.size, 0, none⟩) 4 4] (W.alloc (.cells #[.int .u8 i0, .int .u8 i1, .int .u8 i2, .int .u8 i3] 5))
      fun e w' => e = .returned (.int .u32 (more s [c0, c1, c2, c3] : Nat)) ∧ (W.alloc (.cells #[.int .u8 i0, .int .u8 i1, .int .u8 i2, .int .u8 i3] 5)) = w' :=
  update_any s _ 4 [c0, c1, c2, c3] _ hs (by simp [maxLen]) (txt_lit4 W i0 i1 i2 i3 c0 c1 c2 c3 h0 h1 h2 h3 k0 k1 k2 k3)

theorem sum_lit4 (W : World) :
    Calls Try.prog 12 #[.slice (some ⟨W.heap.size, 0, none⟩) 4 4] (W.alloc (.cells #[.int .u8 0, .int .u8 0, .int .u8 0, .int .u8 0] 5))
      fun e w' => e = .returned (.int .u32 (sum [0, 0, 0, 0] : Nat)) ∧ (W.alloc (.cells #[.int .u8 0, .int .u8 0, .int .u8 0, .int .u8 0] 5)) = w' :=
  sum_any _ 4 [0, 0, 0, 0] _ (by simp [maxLen]) (txt_lit4 W 0 0 0 0 0 0 0 0 rfl rfl rfl rfl (by decide) (by decide) (by decide) (by decide))

theorem sum_lit4' (W : World) (o : Obj) :
    Calls Try.prog 12 #[.slice (some ⟨W.heap.size + 1, 0, none⟩) 4 4] ((W.alloc o).alloc (.cells #[.int .u8 0, .int .u8 0, .int .u8 0, .int .u8 0] 5))
      fun e w' => e = .returned (.int .u32 (sum [0, 0, 0, 0] : Nat)) ∧ ((W.alloc o).alloc (.cells #[.int .u8 0, .int .u8 0, .int .u8 0, .int .u8 0] 5)) = w' := by
  have h := sum_lit4 (W.alloc o)
  simpa using h

set_option maxHeartbeats 1000000 in
theorem crcRest_walk (a : Option Addr) (cap : Nat) (l : List Nat) (w : World) (hm : l.length ≤ maxLen) (h : Txt w a l) :
    Calls Try.prog 7 #[.slice a l.length cap] w fun e w' => e = .returned (.bool true) ∧ Below w.heap.size w w' := by
  have hm0 := hm
  unfold maxLen at hm
  by_cases hl : l.length ≤ 500
  · go_enter Try.func7, Try.ntmps7
    go_wp2_with fail
    refine (awake_any _).mono ?_
    rintro e w1 ⟨rfl, hb1⟩
    have ht1 := h.below hb1
    clear h
    go_wp2_with fail
    refine (sum_any a cap l _ hm0 ht1).mono ?_
    rintro e w' ⟨rfl, rfl⟩
    have hs := sum_lt l
    have hr := rest_eq hs
    generalize sum l = s at *
    rw [show s / 16777216 % 256 = s / 16777216 from by omega] at hr
    have HR := Lib.hid hr
    clear hr
    go_wp2_with fail
    refine (update_lit4 w1 s _ _ _ _ (s % 256) (s / 256 % 256) (s / 65536 % 256) (s / 16777216) hs (by omega) (by omega) (by omega) (by omega) (by omega) (by omega) (by omega) (by omega)).mono ?_
    rintro e w' ⟨rfl, rfl⟩
    rw [HR.out]
    go_wp2_with fail
    refine (sum_lit4' w1 _).mono ?_
    rintro e w' ⟨rfl, rfl⟩
    go_wp2_with fail
    go_ret
    exact ⟨rfl, (hb1.alloc hb1.size _).alloc (Nat.le_trans hb1.size (by simp)) _⟩
  · go_enter Try.func7, Try.ntmps7
    go_wp2_with fail
    refine (awake_any _).mono ?_
    rintro e w1 ⟨rfl, hb1⟩
    go_wp2_with fail
    go_ret
    exact ⟨rfl, hb1⟩

end Go.Proofs.Ytfmphffnhmokbaa
