/-
  The walks of the laws of layer 6.
-/
import Derived.Test.YtfmphffnhmokbaaCrcHelp
namespace Go.Proofs.Ytfmphffnhmokbaa
open Go.RowKit
open CrcMath

set_option maxHeartbeats 1000000 in
theorem crcSums_walk (a : Option Addr) (cap : Nat) (l : List Nat) (w : World) (hm : l.length ≤ maxLen) (h : Txt w a l) :
    Calls Try.prog 3 #[.slice a l.length cap] w fun e w' => e = .returned (.bool true) ∧ Below w.heap.size w w' := by
  have hm0 := hm
  unfold maxLen at hm
  by_cases hl : l.length ≤ 500
  · go_enter Try.func3, Try.ntmps3
    go_wp2_with fail
    refine (awake_any _).mono ?_
    rintro e w1 ⟨rfl, hb1⟩
    have ht1 := h.below hb1
    have hb1' := hb1.size
    go_wp2_with (at_builtin; refine wpList_appendB rfl (.tmp 9) (.tmp 10) rfl rfl (OwnB.new hb1.size) rfl rfl (ht1.below ((Below.refl _ _).alloc (Nat.le_refl _) _)) (by simp; omega) (by simp; omega) ?_; intro v2 w2 hown2 hg2 _)
    have hb2 := below_appendB (hb1.alloc hb1.size _) (OwnB.new hb1.size) (Nat.le_refl _) hg2
    obtain ⟨a2, c2, rfl, hc1, hc2, ht2⟩ := hown2.txt
    have ht2' := h.below hb2
    rw [List.nil_append] at *
    clear ht1 hg2 hown2
    refine (sum_any a2 c2 l _ hm0 ht2).mono ?_
    rintro e w' ⟨rfl, rfl⟩
    go_wp2_with fail
    refine (refsum_any a cap l _ hm0 ht2').mono ?_
    rintro e w' ⟨rfl, rfl⟩
    have k1 := run_convert_str ht2 c2
    have k2 := run_convert_str ht2' cap
    clear ht2 ht2' h
    go_wp2_with fail
    go_ret
    exact ⟨rfl, hb2⟩
  · go_enter Try.func3, Try.ntmps3
    go_wp2_with fail
    refine (awake_any _).mono ?_
    rintro e w1 ⟨rfl, hb1⟩
    go_wp2_with fail
    go_ret
    exact ⟨rfl, hb1⟩

theorem update_any_p (s : Int) (a : Option Addr) (cap : Nat) (l : List Nat) (w : World) (n : Nat) (hs : s = (n : Int)) (hn : n < 4294967296) (hm : l.length ≤ maxLen) (h : Txt w a l) :
    Calls Try.prog 14 #[.int .u32 s, .slice a l.length cap] w fun e w' => e = .returned (.int .u32 (more n l : Nat)) ∧ w = w' := by
  subst hs; exact update_any n a cap l w hn hm h

theorem update_nought (s : Nat) (w : World) (hs : s < 4294967296) :
    Calls Try.prog 14 #[.int .u32 (s : Int), .slice none 0 0] w fun e w' => e = .returned (.int .u32 (s : Int)) ∧ w = w' := by
  have h := update_any s none 0 [] w hs (by simp) (txt_nil w none)
  rw [more_nil hs] at h
  exact h

set_option maxHeartbeats 1000000 in
theorem crcUpdates_walk (a b c : Option Addr) (ca cb cc : Nat) (l m n : List Nat) (w : World) (hl : l.length ≤ maxLen) (hm : m.length ≤ maxLen) (hn : n.length ≤ maxLen) (h1 : Txt w a l) (h2 : Txt w b m) (h3 : Txt w c n) :
    Calls Try.prog 4 #[.slice a l.length ca, .slice b m.length cb, .slice c n.length cc] w fun e w' => e = .returned (.bool true) ∧ Below w.heap.size w w' := by
  have hl0 := hl
  have hm0 := hm
  have hn0 := hn
  unfold maxLen at hl hm hn
  by_cases k1 : l.length ≤ 500
  · by_cases k2 : m.length ≤ 500
    · by_cases k3 : n.length ≤ 500
      · go_enter Try.func4, Try.ntmps4
        go_wp2_with fail
        refine (awake_any _).mono ?_
        rintro e w1 ⟨rfl, hb1⟩
        have hb1' := hb1.size
        have hbA := hb1.alloc hb1.size (.cells #[] 5)
        have tA := h1.below hbA
        go_wp2_with (at_builtin; refine stop ?_)
        refine unstop (wpList_appendB rfl (.tmp 23) (.tmp 24) rfl rfl (OwnB.new hb1.size) rfl rfl tA (by simp; omega) (by simp; omega) ?_)
        intro v2 w2 hown2 hg2 _
        rw [List.nil_append] at *
        have hb2 := below_appendB hbA (OwnB.new hb1.size) (Nat.le_refl _) hg2
        have tB := h2.below hb2
        go_wp2_with (at_builtin; refine stop ?_)
        refine unstop (wpList_appendB rfl (.tmp 25) (.tmp 26) rfl rfl hown2 rfl rfl tB (by omega) hb2.size ?_)
        intro v3 w3 hown3 hg3 _
        have hb3 := below_appendB hb2 hown2 (Nat.le_refl _) hg3
        have tC := h3.below hb3
        clear hg2 hown2 tA tB
        go_wp2_with (at_builtin; refine stop ?_)
        refine unstop (wpList_appendB rfl (.tmp 27) (.tmp 28) rfl rfl hown3 rfl rfl tC (by simp; omega) hb3.size ?_)
        intro v4 w4 hown4 hg4 _
        have hb4 := below_appendB hb3 hown3 (Nat.le_refl _) hg4
        obtain ⟨a5, c5, rfl, hc1, hc2, ht5⟩ := hown4.txt
        have hall : (l ++ m ++ n).length ≤ maxLen := by simp [maxLen]; omega
        have HE : Hid (more (more (sum l) m) n = sum (l ++ m ++ n)) := by
          show _ = _; rw [more_sum h1.1, more_sum (fun c hc => ?_)]
          rcases List.mem_append.1 hc with hc | hc
          · exact h1.1 c hc
          · exact h2.1 c hc
        have t1 := h1.below hb4
        have t2 := h2.below hb4
        have t3 := h3.below hb4
        clear hg3 hown3 hg4 hown4 tC h1 h2 h3 hb3 hb2 hbA
        have hsl := sum_lt l
        generalize l ++ m ++ n = q at *
        go_wp2_with fail
        refine (sum_any a ca l _ hl0 t1).mono ?_
        rintro e w' ⟨rfl, rfl⟩
        go_wp2_with fail
        refine (update_any _ b cb m _ hsl hm0 t2).mono ?_
        rintro e w' ⟨rfl, rfl⟩
        go_wp2_with fail
        refine (update_any _ c cc n _ (more_lt _ _) hn0 t3).mono ?_
        rintro e w' ⟨rfl, rfl⟩
        rw [HE.out]
        go_wp2_with fail
        refine (sum_any a5 c5 q _ hall ht5).mono ?_
        rintro e w' ⟨rfl, rfl⟩
        go_wp2_with fail
        refine (sum_any a ca l _ hl0 t1).mono ?_
        rintro e w' ⟨rfl, rfl⟩
        go_wp2_with fail
        refine (update_nought _ _ hsl).mono ?_
        rintro e w' ⟨rfl, rfl⟩
        go_wp2_with fail
        refine (sum_any a ca l _ hl0 t1).mono ?_
        rintro e w' ⟨rfl, rfl⟩
        go_wp2_with fail
        refine (update_zero b cb m _ hm0 t2).mono ?_
        rintro e w' ⟨rfl, rfl⟩
        go_wp2_with fail
        refine (sum_any b cb m _ hm0 t2).mono ?_
        rintro e w' ⟨rfl, rfl⟩
        go_wp2_with fail
        go_ret
        exact ⟨rfl, hb4⟩
      · go_enter Try.func4, Try.ntmps4
        go_wp2_with fail
        refine (awake_any _).mono ?_
        rintro e w1 ⟨rfl, hb1⟩
        go_wp2_with fail
        go_ret
        exact ⟨rfl, hb1⟩
    · go_enter Try.func4, Try.ntmps4
      go_wp2_with fail
      refine (awake_any _).mono ?_
      rintro e w1 ⟨rfl, hb1⟩
      go_wp2_with fail
      go_ret
      exact ⟨rfl, hb1⟩
  · go_enter Try.func4, Try.ntmps4
    go_wp2_with fail
    refine (awake_any _).mono ?_
    rintro e w1 ⟨rfl, hb1⟩
    go_wp2_with fail
    go_ret
    exact ⟨rfl, hb1⟩

end Go.Proofs.Ytfmphffnhmokbaa
