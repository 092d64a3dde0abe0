/-
  Layer 6 (crc): what the program's functions compute.
-/
import Derived.Test.YtjnfnocmjpboiaaChecked
import Derived.Test.YtjnfnocmjpboiaaCrcMath
import Derived.Test.YtjnfnocmjpboiaaMem
namespace Go.Proofs.Ytjnfnocmjpboiaa
open Go.RowKit
open CrcMath

theorem stps_snoc (k x : Nat) : stps (k + 1) x = stp (stps k x) := by rw [stps_add]; rfl

theorem u32_and1 (x : Nat) (h : x < 4294967296) : bits .and .u32 (x : Int) 1 = ((x % 2 : Nat) : Int) := by
  have := u32_and_nat x 1 h (by decide)
  rw [Nat.and_one_is_mod] at this
  exact this

theorem u32_xorp (x : Nat) (h : x < 2147483648) : bits .xor .u32 (x : Int) 3988292384 = ((x ^^^ 3988292384 : Nat) : Int) :=
  u32_xor_nat x 3988292384 (by omega) (by decide)

set_option maxHeartbeats 400000 in
theorem row_any (x : Nat) (w : World) (hx : x < 4294967296) :
    Calls Try.prog 36 #[.int .u32 (x : Int)] w fun e w' => e = .returned (.int .u32 (row x : Int)) ∧ w = w' := by
  go_enter Try.func36, Try.ntmps36
  go_wp2
  go_loop [0, 3, 4] (fun y o i => ∃ k : Nat, k ≤ 8 ∧ i = .int .i64 k ∧ y = .int .u32 (stps k x : Nat)) (fun _ _ i => 8 - (intOf i).toNat)
  case atStart => exact ⟨0, by omega, rfl, rfl⟩
  case round =>
    obtain ⟨k, hk, rfl, rfl⟩ := hrel
    have hlt : stps k x < 4294967296 := stps_lt k hx
    have hs := stps_snoc k x
    have HS := Lib.hid hs
    clear hs
    generalize hy : stps k x = y at *
    have HY := Lib.hid hy
    clear hy
    have h1 := u32_and1 y hlt
    by_cases hk8 : k < 8
    · have h2 := u32_xorp (y / 2) (by omega)
      rw [show ((y / 2 : Nat) : Int) = (y : Int) / 2 from by omega] at h2
      go_wp2
      all_goals
        go_round
        case rel =>
          refine ⟨k + 1, by omega, by go_num, ?_⟩
          rw [HS.out]; unfold stp
          first
            | (have h : ((y : Int) % 2 == 1) = true := by assumption
               have h' : y % 2 = 1 := by have := beq_iff_eq.1 h; omega
               rw [if_pos h'])
            | (have h : ((y : Int) % 2 == 1) = false := by assumption
               have h' : ¬ y % 2 = 1 := by have := beq_eq_false_iff_ne.1 h; omega
               rw [if_neg h']; rfl)
        case measure => simp [intOf]; omega
    · have hk' : k = 8 := by omega
      subst hk'
      go_wp2
      go_ret
      exact ⟨by rw [← HY.out]; rfl, rfl⟩

theorem u32_not (s : Nat) (h : s < 4294967296) : bits .xor .u32 IntKind.u32.max (s : Int) = ((flip s : Nat) : Int) := by
  have e : IntKind.u32.max = ((4294967295 : Nat) : Int) := by decide
  rw [e, u32_xor_nat 4294967295 s (by decide) h, flip_xor h, Nat.xor_comm]

theorem u32_and255 (x : Nat) (h : x < 4294967296) : bits .and .u32 (x : Int) 255 = ((x % 256 : Nat) : Int) := by
  have := u32_and_nat x 255 h (by decide)
  rw [show (255 : Nat) = 2 ^ 8 - 1 from rfl, Nat.and_two_pow_sub_one_eq_mod] at this
  exact this

set_option maxHeartbeats 400000 in
theorem update_any (s : Nat) (a : Option Addr) (cap : Nat) (l : List Nat) (w : World) (hs : s < 4294967296) (hm : l.length ≤ maxLen) (h : Txt w a l) :
    Calls Try.prog 25 #[.int .u32 (s : Int), .slice a l.length cap] w fun e w' => e = .returned (.int .u32 (more s l : Nat)) ∧ w = w' := by
  have hb := h.lt
  have hc := h.at_
  clear h
  unfold maxLen at hm
  have hn := u32_not s hs
  have hflt := flip_lt hs
  have HM : Hid (more s l = flip (reg (flip s) l)) := rfl
  generalize more s l = z at *
  generalize flip s = f at *
  go_enter Try.func25, Try.ntmps25
  go_wp2
  clear hn
  go_loop [5, 7, 12] (fun y o i => ∃ k : Nat, k ≤ l.length ∧ i = .int .i64 k ∧ y = .int .u32 (reg f (l.take k) : Nat)) (fun _ _ i => l.length - (intOf i).toNat)
  case atStart => exact ⟨0, by omega, rfl, rfl⟩
  case round =>
    obtain ⟨k, hk, rfl, rfl⟩ := hrel
    have hlt : reg f (l.take k) < 4294967296 := reg_lt _ hflt fun c hc => hb c (List.mem_of_mem_take hc)
    by_cases hkl : k < l.length
    · obtain ⟨u, hu⟩ : ∃ u, l[k]? = some u := ⟨l[k], List.getElem?_eq_getElem hkl⟩
      obtain ⟨b, off, rfl, hcell⟩ := hc (by omega)
      have hcl := hcell k u hu
      clear hcell
      have hul : u < 256 := hb u (List.mem_of_getElem? hu)
      have HS : Hid (reg f (l.take (k + 1)) = upd (reg f (l.take k)) u) := by rw [take_snoc hu, reg_snoc]; rfl
      generalize hy : reg f (l.take k) = y at *
      clear hy hu hc hb
      have h1 := u32_and255 y hlt
      have h2 := u32_xor_nat (y % 256) u (by omega) (by omega)
      rw [show ((y % 256 : Nat) : Int) = (y : Int) % 256 from by omega] at h1 h2
      have hx : (y % 256) ^^^ u < 4294967296 := Nat.xor_lt_two_pow (n := 32) (by omega) (by omega)
      have h3 := u32_xor_nat (y / 256) (row (y % 256 ^^^ u)) (by omega) (row_lt hx)
      rw [upd_eq, show ((y / 256 : Nat) : Int) = (y : Int) / 256 from by omega] at h3
      generalize y % 256 ^^^ u = q at *
      go_wp2_with (go_at_call 36; with_reducible refine (row_any _ _ hx).mono ?_; rintro e w' ⟨rfl, rfl⟩)
      go_round
      case rel => exact ⟨k + 1, by omega, by go_num, by rw [HS.out]⟩
      case measure => simp [intOf]; omega
    · have hk' : k = l.length := by omega
      subst hk'
      rw [List.take_length] at *
      have hn := u32_not _ hlt
      go_wp2
      go_ret
      exact ⟨by rw [HM.out]; rfl, rfl⟩

theorem update_zero (a : Option Addr) (cap : Nat) (l : List Nat) (w : World) (hm : l.length ≤ maxLen) (h : Txt w a l) :
    Calls Try.prog 25 #[.int .u32 0, .slice a l.length cap] w fun e w' => e = .returned (.int .u32 (sum l : Nat)) ∧ w = w' :=
  update_any 0 a cap l w (by decide) hm h

set_option maxHeartbeats 400000 in
theorem sum_any (a : Option Addr) (cap : Nat) (l : List Nat) (w : World) (hm : l.length ≤ maxLen) (h : Txt w a l) :
    Calls Try.prog 16 #[.slice a l.length cap] w fun e w' => e = .returned (.int .u32 (sum l : Nat)) ∧ w = w' := by
  have H := Lib.hid (update_zero a cap l w hm h)
  clear h
  go_enter Try.func16, Try.ntmps16
  go_wp2_with (go_at_call 25; with_reducible refine H.out.mono ?_; rintro e w' ⟨rfl, rfl⟩)
  go_ret
  exact ⟨rfl, rfl⟩

theorem sum_nought (w : World) : Calls Try.prog 16 #[.slice none 0 0] w fun e w' => e = .returned (.int .u32 0) ∧ w = w' :=
  sum_any none 0 [] w (by simp) (txt_nil w none)

end Go.Proofs.Ytjnfnocmjpboiaa
