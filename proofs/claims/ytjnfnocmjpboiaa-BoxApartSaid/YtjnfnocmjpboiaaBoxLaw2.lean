/-
  Layer 7 (box): the law BoxPacks.
-/
import Derived.Test.YtjnfnocmjpboiaaBoxLaw1
import Derived.Test.YtjnfnocmjpboiaaBoxRef4
import Derived.Test.YtjnfnocmjpboiaaBoxPlain
import Derived.Test.YtjnfnocmjpboiaaChunks
namespace Go.Proofs.Ytjnfnocmjpboiaa
open Go.RowKit
open CrcMath BoxMath

theorem dataOf_len : ∀ (cs : List (Nat × List Nat)) (m : Nat), (∀ x ∈ cs, x.2.length ≤ m) → (dataOf cs).length ≤ cs.length * m
  | [], m, _ => by simp [dataOf]
  | c :: cs, m, h => by
    rw [dataOf, List.flatMap_cons, List.length_append]
    have h1 := h c (by simp)
    have h2 := dataOf_len cs m fun x hx => h x (by simp [hx])
    unfold dataOf at h2
    rw [List.length_cons, Nat.add_mul]
    omega

/-- What is looked at is small. -/
theorem small_of {cs : List (Nat × List Nat)} (h : greatB cs = false) : cs.length ≤ 12 ∧ (∀ x ∈ cs, x.2.length ≤ 100) ∧ (dataOf cs).length ≤ 1200 := by
  unfold greatB at h
  rw [Bool.or_eq_false_iff, decide_eq_false_iff_not, List.any_eq_false] at h
  have h2 : ∀ x ∈ cs, x.2.length ≤ 100 := fun x hx => by
    have := h.2 x hx
    rw [decide_eq_true_iff] at this
    omega
  have h3 := dataOf_len cs 100 h2
  have h1 : cs.length ≤ 12 := by omega
  exact ⟨h1, h2, by omega⟩

set_option maxHeartbeats 2000000 in
theorem boxPacks_all (a : Option Addr) (n c : Nat) (cs : List (Nat × List Nat)) (w : World) (hn : cs.length = n) (h : Chunks w a cs) :
    Calls Try.prog 3 #[.slice a n c] w fun e w' => e = .returned (.bool true) ∧ Below w.heap.size w w' := by
  have HAW := Lib.hid (awake_any w)
  by_cases hg : greatB cs = true
  · have HGR := Lib.hid (fun (V : World) (hV : Below w.heap.size w V) => great_any a n c cs V hn (h.below hV))
    rw [hg] at HGR
    go_enter Try.func3, Try.ntmps3
    go_wp2_with fail
    refine HAW.out.mono ?_
    rintro e w1 ⟨rfl, hb1⟩
    go_wp2_with fail
    refine (HGR.out _ hb1).mono ?_
    rintro e w' ⟨rfl, rfl⟩
    go_wp2_with fail
    go_ret
    exact ⟨rfl, hb1⟩
  · rw [Bool.not_eq_true] at hg
    have HGR := Lib.hid (fun (V : World) (hV : Below w.heap.size w V) => great_any a n c cs V hn (h.below hV))
    rw [hg] at HGR
    obtain ⟨h12, h100, hd⟩ := small_of hg
    have HP := Lib.hid (fun (V : World) (hV : Below w.heap.size w V) => pack_any a n c cs V hn (by omega) (by omega) (h.below hV))
    have HL := Lib.hid (fun (V : World) (hV : Below w.heap.size w V) => lawPack_any a n c cs V hn (by omega) (by omega) (h.below hV))
    have HR := Lib.hid (fun (A : Option Addr) (C : Nat) (V : World) (h1 : (boxOf cs).length ≤ C) (h2 : C ≤ maxLen) (t : Txt V A (boxOf cs)) => rightBox_any A C (boxOf cs) V h1 h2 (by rw [boxOf_len]; omega) t)
    rw [rightBox_box (by omega) (fun c hc => by have := h100 c hc; omega)] at HR
    have HBL : Hid ((boxOf cs).length ≤ 2000) := by show _ ≤ _; rw [boxOf_len]; omega
    generalize boxOf cs = B at *
    clear hg hd h h100
    go_enter Try.func3, Try.ntmps3
    go_wp2_with fail
    refine HAW.out.mono ?_
    rintro e w1 ⟨rfl, hb1⟩
    go_wp2_with fail
    refine (HGR.out _ hb1).mono ?_
    rintro e w' ⟨rfl, rfl⟩
    go_wp2_with fail
    refine (HP.out _ hb1).mono ?_
    rintro e w2 ⟨v2, rfl, ho2, hb2⟩
    obtain ⟨A2, c2, rfl, hc2, hm2, t2⟩ := ho2.txt
    have hbw2 := hb1.trans (hb2.mono hb1.size)
    have HK2 : Hid (∀ V, Below w2.heap.size w2 V → (convert 25 9 (.slice A2 B.length c2)).run Try.prog V = .ok (.string (strOf B)) V) := fun V hV => run_convert_str (t2.below hV) c2
    have T2 := Lib.hid t2
    have hd2 := (Below.refl w2.heap.size w2).drew
    have HD2 := Lib.hid hd2
    have HW2 := Lib.hid hbw2
    clear hb2 ho2 t2 hd2 hbw2
    go_wp2_with fail
    have k2a := HK2.out _ HD2.out
    go_region_with (first
        | (go_at_call 13; refine (HL.out _ HW2.out.drew).mono ?_; rintro e w3 ⟨v3, rfl, ho3, hb3a⟩; obtain ⟨A3, c3, rfl, _, _, t3⟩ := ho3.txt; have k3 := run_convert_str t3 c3; have hb3 := HD2.out.trans (hb3a.mono HD2.out.size); have k2b := HK2.out _ hb3)
        | (go_at_call 14; refine (HR.out A2 c2 _ hc2 hm2 (T2.out.below hb3)).mono ?_; rintro e w4 ⟨rfl, hb4a⟩; have hb4 := hb3.trans (hb4a.mono hb3.size)))
    all_goals
      go_wp2_with fail
      go_ret
      exact ⟨rfl, HW2.out.trans (hb4.mono HW2.out.size)⟩

end Go.Proofs.Ytjnfnocmjpboiaa
