/-
  Layer 7 (box): the law BoxRight.
-/
import Derived.Test.YtjnfnocmjpboiaaBoxLaw2
import Derived.Test.YtjnfnocmjpboiaaBoxNear
import Derived.Test.YtjnfnocmjpboiaaOwnMore
namespace Go.Proofs.Ytjnfnocmjpboiaa
open Go.RowKit
open CrcMath BoxMath

theorem near_set (l : List Nat) (k u : Nat) : Near l (l.set k u) (8 * k) := by
  refine ⟨List.length_set, fun p hp hd => ?_⟩
  by_cases h : p / 8 = k
  · omega
  · rw [dbit, List.getD_eq_getElem?_getD (l := l.set k u), List.getElem?_set_ne (fun e => h e.symm), ← List.getD_eq_getElem?_getD, Nat.xor_self] at hd
    simp at hd

theorem set_eq {l : List Nat} {k u v : Nat} (hu : l[k]? = some u) : (l.set k v = l) ↔ v = u := by
  obtain ⟨hk, e⟩ := List.getElem?_eq_some_iff.1 hu
  constructor
  · intro h
    have := congrArg (fun m => m[k]?) h
    simp only [List.getElem?_set_self hk, hu] at this
    injection this
  · rintro rfl
    rw [← e]
    exact List.set_getElem_self hk

theorem chunks_lt {w : World} {a : Option Addr} {cs : List (Nat × List Nat)} (h : Chunks w a cs) : ∀ c ∈ cs, c.1 < 256 ∧ ∀ d ∈ c.2, d < 256 := by
  intro c hc
  obtain ⟨i, hi⟩ := List.getElem?_of_mem hc
  obtain ⟨h1, _, _, _, _, _, _, _, _, _, t⟩ := h i c.1 c.2 hi
  exact ⟨h1, t.1⟩

set_option maxRecDepth 10000 in
set_option maxHeartbeats 4000000 in
theorem boxRight_small (a : Option Addr) (n c at_ by_ : Nat) (cs : List (Nat × List Nat)) (am : Option Addr) (cm : Nat) (lm : List Nat) (w : World) (hn : cs.length = n) (h : Chunks w a cs) (hg : greatB cs = false)
    (hat : at_ < 65536) (hby : by_ < 256) (hm20 : lm.length ≤ 20) (hm : Txt w am lm) :
    Calls Try.prog 8 #[.slice a n c, .int .u16 (at_ : Int), .int .u8 (by_ : Int), .slice am lm.length cm] w fun e w' => e = .returned (.bool true) ∧ Below w.heap.size w w' := by
  have HAW := Lib.hid (awake_any w)
  have HGR := Lib.hid (fun (V : World) (hV : Below w.heap.size w V) => great_any a n c cs V hn (h.below hV))
  rw [hg] at HGR
  obtain ⟨h12, h100, hd⟩ := small_of hg
  have h32 : ∀ c ∈ cs, c.2.length < 4294967296 := fun c hc => by have := h100 c hc; omega
  have HP := Lib.hid (fun (V : World) (hV : Below w.heap.size w V) => pack_any a n c cs V hn (by omega) (by omega) (h.below hV))
  have hbox := box_lt (chunks_lt h)
  have HBX := Lib.hid hbox
  have hbl : (boxOf cs).length = 36 + 18 * n + (dataOf cs).length := by rw [boxOf_len, hn]
  obtain ⟨k, hk⟩ : ∃ k, k = at_ % (boxOf cs).length := ⟨_, rfl⟩
  have hkl : k < (boxOf cs).length := by rw [hk]; exact Nat.mod_lt _ (by omega)
  have hki : (at_ : Int) % ((boxOf cs).length : Int) = (k : Int) := by rw [hk]; rfl
  obtain ⟨u, hu⟩ : ∃ u, (boxOf cs)[k]? = some u := ⟨_, List.getElem?_eq_getElem hkl⟩
  have hu8 := hbox u (List.mem_of_getElem? hu)
  have HU := Lib.hid hu
  have hset : ∀ d ∈ (boxOf cs).set k by_, d < 256 := by
    intro d hd
    rcases List.mem_or_eq_of_mem_set hd with hd | rfl
    · exact hbox d hd
    · exact hby
  have hr1 := near_right (by omega) h32 (by rw [List.length_set]; omega) hbox hset (near_set (boxOf cs) k by_)
  have hr2 := more_right (m := lm) (by omega) h32 (by rw [List.length_append]; omega) (fun d hd => by
    rcases List.mem_append.1 hd with hd | hd
    · exact hbox d hd
    · exact hm.1 d hd)
  obtain ⟨t1, ht1⟩ : ∃ t : Bool, t = ((by_ : Int) == (u : Int)) := ⟨_, rfl⟩
  have q1 : ((by_ : Int) == (u : Int)) = t1 := ht1.symm
  have hr1' : rightBox ((boxOf cs).set k by_) = t1 := by
    rw [hr1, ht1, Bool.eq_iff_iff, decide_eq_true_iff, set_eq hu, beq_iff_eq, Int.natCast_inj]
  obtain ⟨t2, ht2⟩ : ∃ t : Bool, t = ((lm.length : Int) == 0) := ⟨_, rfl⟩
  have q2 : ((lm.length : Int) == 0) = t2 := ht2.symm
  have hr2' : rightBox (boxOf cs ++ lm) = t2 := by
    rw [hr2, ht2, Bool.eq_iff_iff, decide_eq_true_iff, beq_iff_eq]; omega
  have HR1 := Lib.hid (fun (A : Option Addr) (C : Nat) (V : World) (h1 : (boxOf cs).length ≤ C) (h2 : C ≤ maxLen) (t : Txt V A ((boxOf cs).set k by_)) => rightBox_any A C ((boxOf cs).set k by_) V (by rw [List.length_set]; exact h1) h2 (by rw [List.length_set]; omega) t)
  rw [hr1', List.length_set] at HR1
  have HR2 := Lib.hid (fun (A : Option Addr) (C : Nat) (V : World) (h1 : (boxOf cs ++ lm).length ≤ C) (h2 : C ≤ maxLen) (t : Txt V A (boxOf cs ++ lm)) => rightBox_any A C (boxOf cs ++ lm) V h1 h2 (by rw [List.length_append]; omega) t)
  rw [hr2'] at HR2
  have hpos : 0 < (boxOf cs).length := by omega
  have hle : (boxOf cs).length ≤ 2000 := by omega
  have hb0 : (((boxOf cs).length : Int) == 0) = false := by rw [beq_eq_false_iff_ne]; omega
  have HM := Lib.hid hm
  clear hg h h100 h32 hn hbox hbl hk hu hset hr1 hr2 hr1' hr2' ht1 ht2 hm hd
  generalize boxOf cs = B at *
  have HMM : Hid (B ++ lm = [] ++ B ++ lm) := rfl
  generalize B ++ lm = M at *
  go_enter Try.func8, Try.ntmps8
  go_wp2_with fail
  refine HAW.out.mono ?_
  rintro e w1 ⟨rfl, hb1⟩
  go_wp2_with fail
  refine (HGR.out _ hb1).mono ?_
  rintro e w' ⟨rfl, rfl⟩
  go_wp2_with fail
  refine (HP.out _ hb1).mono ?_
  rintro e w2 ⟨v2, rfl, ho2, hb2⟩
  obtain ⟨A2, c2, rfl, hc2, hm2, t2⟩ := ho2.txt
  have hbw2 := hb1.trans (hb2.mono hb1.size)
  have T2 := Lib.hid t2
  have HW2 := Lib.hid hbw2
  have hba := (Below.refl w2.heap.size w2).alloc (Nat.le_refl _) (.cells #[] 5)
  have tA := t2.below hba
  have hbne : ¬ B = [] := by rintro rfl; simp at hpos
  clear hb1 hb2 ho2 t2 hbw2 hc2
  go_wp2_with (at_builtin; refine stop ?_)
  refine unstop (wpList_appendB rfl (.tmp 40) (.tmp 41) rfl rfl (OwnB.new (Nat.le_refl _)) rfl rfl tA (by simp; omega) (by simp) ?_)
  intro v3 w3 ho3 hg3 _
  rw [List.nil_append] at ho3
  have hb3 := below_appendB hba (OwnB.new (Nat.le_refl _)) (Nat.le_refl _) hg3
  obtain ⟨g, c3, rfl, hc3, hcm3, hg3', hg4⟩ := ho3.form hpos
  have f0 := ho3.thawed k
  have c0 := ho3.cell HU.out
  have ho4 := ho3.set k by_ hby
  have hb4 := hb3.setCell (p := ⟨g, k, none⟩) hg3' (.int .u8 (by_ : Int))
  obtain ⟨b2, o2, rfl, hcell2⟩ := T2.out.at_ hpos
  have hd2 := hcell2 k u HU.out
  have HS2 : Hid (∀ V, Below w2.heap.size w2 V → V.cell? ⟨b2, o2 + k, none⟩ = some (.int .u8 (u : Int))) := fun V hV => (hV.cell (p := ⟨b2, o2 + k, none⟩) (lt_of_cell hd2)).trans hd2
  rw [hki]
  clear hba tA hg3 hcell2 hki hd2
  go_wp2_with fail
  have tb4 := ho4.read
  have HAM := Lib.hid (fun V (hV : Below w2.heap.size w2 V) => HM.out.below (HW2.out.trans (hV.mono HW2.out.size)))
  have HB4 := Lib.hid hb4
  have TB4 := Lib.hid tb4
  clear f0 c0 ho4 ho3 hb3 tb4
  generalize w3.setCell ⟨g, k, none⟩ (.int .u8 (by_ : Int)) = W4 at *
  go_region_held3 (fun V => V.cell? ⟨b2, o2 + k, none⟩ = some (.int .u8 (u : Int)))
    (first
      | exact HS2.out _ hb8
      | exact HS2.out _ hb7
      | exact HS2.out _ hb6
      | exact HS2.out _ (hb5.alloc hb5.size _)
      | exact HS2.out _ hb5
      | exact HS2.out _ HB4.out.drew)
    (first
      | ((fail_if_success (have _y := hb5)); go_at_call 14; refine (HR1.out _ c3 _ hc3 hcm3 (Txt.drew TB4.out)).mono ?_; rintro e w5 ⟨rfl, hb5a⟩; have hb5 := HB4.out.drew.trans (hb5a.mono HB4.out.drew.size))
      | ((fail_if_success (have _y := hb6)); refine step_appendB (by rfl) _ _ (by rfl) (by rfl) (OwnB.new (w := w5) (base := w5.heap.size) (Nat.le_refl _)) (by rfl) (by rfl) (T2.out.below (hb5.alloc hb5.size _)) (by simp; omega) (by simp) ?_; intro v6 w6 h6 hg6; have hb6 := (hb5.alloc hb5.size (.cells #[] 5)).grown hg6 (by simp; have := hb5.size; omega) (fun b hb => by simp [Value.ownBlock] at hb; have := hb5.size; omega))
      | (refine step_appendB (by rfl) _ _ (by rfl) (by rfl) h6 (by rfl) (by rfl) (HAM.out _ hb6) (by simp; omega) (by have := hg6.size; simp at this; omega) ?_; intro v7 w7 h7 hg7; rw [← HMM.out] at h7; have hb7 := hb6.grown hg7 hb6.size (fun b hb => Nat.le_trans hb5.size (h6.lt b hb).1); obtain ⟨A7, c7, rfl, h71, h72, t7⟩ := h7.txt)
      | (go_at_call 14; refine (HR2.out A7 c7 _ h71 h72 t7).mono ?_; rintro e w8 ⟨rfl, hb8a⟩; have hb8 := hb7.trans (hb8a.mono hb7.size)))
  go_wp2_with fail
  go_ret
  exact ⟨rfl, HW2.out.trans (hb8.mono HW2.out.size)⟩

set_option maxHeartbeats 2000000 in
theorem boxRight_all (a : Option Addr) (n c at_ by_ : Nat) (cs : List (Nat × List Nat)) (am : Option Addr) (cm : Nat) (lm : List Nat) (w : World) (hn : cs.length = n) (h : Chunks w a cs)
    (hat : at_ < 65536) (hby : by_ < 256) (hmm : lm.length ≤ maxLen) (hm : Txt w am lm) :
    Calls Try.prog 8 #[.slice a n c, .int .u16 (at_ : Int), .int .u8 (by_ : Int), .slice am lm.length cm] w fun e w' => e = .returned (.bool true) ∧ Below w.heap.size w w' := by
  by_cases hg : greatB cs = true
  · have HAW := Lib.hid (awake_any w)
    have HGR := Lib.hid (fun (V : World) (hV : Below w.heap.size w V) => great_any a n c cs V hn (h.below hV))
    rw [hg] at HGR
    go_enter Try.func8, Try.ntmps8
    go_wp2_with fail
    refine HAW.out.mono ?_
    rintro e w1 ⟨rfl, hb1⟩
    go_wp2_with fail
    refine (HGR.out _ hb1).mono ?_
    rintro e w' ⟨rfl, rfl⟩
    go_wp2_with fail
    go_ret
    exact ⟨rfl, hb1⟩
  · rw [Bool.not_eq_true] at hg
    by_cases h20 : lm.length ≤ 20
    · exact boxRight_small a n c at_ by_ cs am cm lm w hn h hg hat hby h20 hm
    · have HAW := Lib.hid (awake_any w)
      have HGR := Lib.hid (fun (V : World) (hV : Below w.heap.size w V) => great_any a n c cs V hn (h.below hV))
      rw [hg] at HGR
      unfold maxLen at hmm
      go_enter Try.func8, Try.ntmps8
      go_wp2_with fail
      refine HAW.out.mono ?_
      rintro e w1 ⟨rfl, hb1⟩
      go_wp2_with fail
      refine (HGR.out _ hb1).mono ?_
      rintro e w' ⟨rfl, rfl⟩
      go_wp2_with fail
      go_ret
      exact ⟨rfl, hb1⟩

end Go.Proofs.Ytjnfnocmjpboiaa
