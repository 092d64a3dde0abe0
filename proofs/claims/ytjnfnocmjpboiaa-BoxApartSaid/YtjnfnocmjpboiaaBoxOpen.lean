/-
  Layer 7 (box): Open.
-/
import Derived.Test.YtjnfnocmjpboiaaBoxParts2
import Derived.Test.YtjnfnocmjpboiaaBoxSecond
namespace Go.Proofs.Ytjnfnocmjpboiaa
open Go.RowKit
open CrcMath BoxMath

/-- What a box's bytes are opened as: none, if they are no box. -/
def opened (l : List Nat) : Option (List Part) :=
  if first1 l then some (partsOf l (table1 l) (18 + 9 * n1 l : Nat) (n1 l))
  else if second2 l then some (partsOf l (table2 l) ((l.length : Int) - 18 - 9 * (n2 l : Nat) - (lens (table2 l) (n2 l) : Nat)) (n2 l))
  else none

/-- An answer of Open. -/
def OpenIs (w : World) (r : Option (List Part)) (e : Ending) (w' : World) : Prop :=
  Below w.heap.size w w' ∧ match r with
    | some ps => ∃ v, e = .returned (.tuple #[v, .int .i64 0]) ∧ PartsOwn w' w.heap.size v ps
    | none => ∃ k, e = .returned (.tuple #[.slice none 0 0, .int .i64 k]) ∧ k ≠ 0

theorem table1_len {l : List Nat} (h : first1 l = true) : (table1 l).length = 9 * n1 l + 4 := by
  unfold first1 at h
  simp only [Bool.and_eq_true, decide_eq_true_iff] at h
  rw [table1, List.length_take, List.length_drop]; omega
theorem table2_len {l : List Nat} (h : second2 l = true) : (table2 l).length = 9 * n2 l + 4 := by
  unfold second2 at h
  simp only [Bool.and_eq_true, decide_eq_true_iff] at h
  rw [table2, List.length_take, List.length_drop]; omega

set_option maxHeartbeats 4000000 in
theorem open_any (a : Option Addr) (c : Nat) (l : List Nat) (w : World) (hc : l.length ≤ c) (hc2 : c ≤ maxLen) (hl : l.length ≤ 4194304) (h : Txt w a l) :
    Calls Try.prog 15 #[.slice a l.length c] w (OpenIs w (opened l)) := by
  have HF := Lib.hid (fun (w' : World) (hb : Below w.heap.size w w') => first_any a c l w' hc hc2 hl (h.below hb))
  have HS := Lib.hid (fun (w' : World) (hb : Below w.heap.size w w') => second_any a c l w' hc hc2 hl (h.below hb))
  have HC := Lib.hid hc
  have HH := Lib.hid h
  have hn1 : n1 l < 65536 := cntN_lt (h.take 10).1
  have hn2 : n2 l < 65536 := cntN_lt fun x hx => h.1 x (List.mem_of_mem_drop hx)
  clear h
  go_enter Try.func15, Try.ntmps15
  go_wp2_with fail
  have hbF : Below w.heap.size w (w.alloc (.cells #[.func (.func 22) #[] #[], .func (.func 23) #[] #[]] 56)) := (Below.refl _ _).alloc (Nat.le_refl _) _
  go_loopw [5, 6, 7, 8, 14] (fun _ _ _ _ i wr => ∃ k : Nat, k ≤ 2 ∧ i = .int .i64 k ∧ (1 ≤ k → first1 l = false) ∧ (2 ≤ k → second2 l = false) ∧ Below (w.heap.size + 1) (w.alloc (.cells #[.func (.func 22) #[] #[], .func (.func 23) #[] #[]] 56)) wr) (fun _ _ _ _ i _ => 2 - (intOf i).toNat)
  case atStart => exact ⟨0, by omega, rfl, by omega, by omega, Below.refl _ _⟩
  case round =>
    obtain ⟨k, hk, rfl, h1, h2, hb⟩ := hrel
    have hG := (hb.block w.heap.size (by omega)).trans (heap_alloc_new w _)
    have c0 : wr.cell? ⟨w.heap.size, 0, none⟩ = some (.func (.func 22) #[] #[]) := by rw [World.cell?, hG]; rfl
    have c1 : wr.cell? ⟨w.heap.size, 1, none⟩ = some (.func (.func 23) #[] #[]) := by rw [World.cell?, hG]; rfl
    have hbw : Below w.heap.size w wr := hbF.trans (hb.mono (Nat.le_succ _))
    have hsw := hb.size
    rw [show (w.alloc (.cells #[.func (.func 22) #[] #[], .func (.func 23) #[] #[]] 56)).heap.size = w.heap.size + 1 from by simp] at hsw
    match k, hk with
    | 0, _ =>
      go_wp2_with fail
      refine (HF.out wr hbw).mono ?_
      rintro e w3 ⟨hb3, ⟨hf, A, ca, rfl, tA, hla, hca⟩ | ⟨hf, rfl⟩⟩
      · go_wp2_with fail
        have hB3 := hbw.trans (hb3.mono hbw.size)
        refine (parts_any a A c ca l (table1 l) _ (n1 l) w3 hc hc2 hl (HH.out.below hB3) hla hca (tA.below hb3) (table1_len hf) (by omega) (by omega) (by omega)).mono ?_
        rintro e w5 ⟨v, rfl, ho5, hb5⟩
        go_wp2_with fail
        go_ret2
        refine ⟨hB3.trans (hb5.mono hB3.size), ?_⟩
        rw [opened, hf]
        exact ⟨v, rfl, ho5.base hB3.size⟩
      · go_wp2_with fail
        go_roundw
        case rel => exact ⟨1, by omega, by go_num, fun _ => hf, by omega, hb.trans (hb3.mono hsw)⟩
        case measure => simp [intOf]
    | 1, _ =>
      go_wp2_with fail
      refine (HS.out wr hbw).mono ?_
      rintro e w3 ⟨hb3, ⟨hf, A, ca, rfl, tA, hla, hca⟩ | ⟨hf, rfl⟩⟩
      · go_wp2_with fail
        have hB3 := hbw.trans (hb3.mono hbw.size)
        have hle := lens_le tA.1 (n2 l)
        refine (parts_any a A c ca l (table2 l) _ (n2 l) w3 hc hc2 hl (HH.out.below hB3) hla hca (tA.below hb3) (table2_len hf) (by omega) (by omega) (by omega)).mono ?_
        rintro e w5 ⟨v, rfl, ho5, hb5⟩
        go_wp2_with fail
        go_ret2
        refine ⟨hB3.trans (hb5.mono hB3.size), ?_⟩
        rw [opened, h1 (by omega), hf]
        exact ⟨v, rfl, ho5.base hB3.size⟩
      · go_wp2_with fail
        go_roundw
        case rel => exact ⟨2, by omega, by go_num, fun _ => h1 (by omega), fun _ => hf, hb.trans (hb3.mono hsw)⟩
        case measure => simp [intOf]
    | 2, _ =>
      go_wp2_with fail
      go_ret2
      refine ⟨hbw, ?_⟩
      rw [opened, h1 (by omega), h2 (by omega)]
      exact ⟨3, rfl, by omega⟩

end Go.Proofs.Ytjnfnocmjpboiaa
