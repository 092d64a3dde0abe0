/-
  Layer 55 (script), the document's answer: words, numbers' digits, names.
-/
import Derived.Test.YtjcffbhgjmaicaaDoorScrBody
import Derived.Test.YtjcffbhgjmaicaaDoorScrReadP
namespace Go.Proofs.YtjcffbhgjmaicaaDoor
open Go.RowKit
open Script

/-- One byte of a string. -/
theorem run_at {l : List UInt8} {k : Nat} {c : UInt8} (h : l[k]? = some c) : ∀ V : World, (Instr.index 9 (.string ⟨⟨l⟩⟩) (.int .i64 (k : Int))).run Tryd.prog V = .ok (.int .u8 ((c.toNat : Nat) : Int)) V := by
  intro V
  obtain ⟨hk, e⟩ := List.getElem?_eq_some_iff.1 h
  have hs : k < (ByteArray.mk ⟨l⟩).size := hk
  rw [run_index_string V 9 ⟨⟨l⟩⟩ .i64 (k : Int) Tryd.underlying9, dif_pos ⟨by omega, by exact_mod_cast hs⟩]
  subst e
  rfl

/-- A piece of a string. -/
theorem run_piece (l : List UInt8) (i j : Nat) (hij : i ≤ j) (hj : j ≤ l.length) : ∀ V : World, (Instr.slice 9 (.string ⟨⟨l⟩⟩) (some (.int .i64 (i : Int))) (some (.int .i64 (j : Int))) none).run Tryd.prog V = .ok (.string ⟨⟨(l.drop i).take (j - i)⟩⟩) V := by
  intro V
  rw [run_slice_string_if V 9 ⟨⟨l⟩⟩ .i64 .i64 (i : Int) (j : Int) Tryd.underlying9]
  have hs : (ByteArray.mk ⟨l⟩).size = l.length := rfl
  rw [if_pos ⟨by omega, by rw [hs]; omega⟩, if_pos ⟨by omega, by omega⟩, Int.toNat_natCast, Int.toNat_natCast]
  have h := Lib.extract_data ⟨⟨l⟩⟩ i j
  generalize (ByteArray.mk ⟨l⟩).extract i j = x at *
  obtain ⟨⟨d⟩⟩ := x
  simp only at h
  rw [h]

/-- A kind's word. -/
def wordOf (k : Int) : List UInt8 := match Script.shape k with | some x => x.1 | none => []

set_option maxRecDepth 100000 in
set_option maxHeartbeats 4000000 in
theorem word_in (k : Int) (h1 : 1 ≤ k) (h2 : k ≤ 13) (w : World) : Calls Tryd.prog 38 #[.int .i64 k] w fun e w' => e = .returned (.tuple #[.string ⟨(wordOf k).toArray⟩, .int .i64 (manyOf k : Int)]) ∧ Below w.heap.size w w' := by
  rcases (show k = 1 ∨ k = 2 ∨ k = 3 ∨ k = 4 ∨ k = 5 ∨ k = 6 ∨ k = 7 ∨ k = 8 ∨ k = 9 ∨ k = 10 ∨ k = 11 ∨ k = 12 ∨ k = 13 by omega) with rfl | rfl | rfl | rfl | rfl | rfl | rfl | rfl | rfl | rfl | rfl | rfl | rfl
  all_goals
    go_enter Tryd.func38, Tryd.ntmps38
    go_wp2_with fail
    go_quiet (fail)
    refine k_at (K := _) ?_
    intro V hV
    go_wp2_with fail
    go_ret2
    refine ⟨rfl, ?_⟩
    rw [hV]
    exact below_drewL (((Below.refl _ w).alloc (Nat.le_refl _) _).alloc (by simp) _) _

set_option maxRecDepth 100000 in
theorem word_any (k : Int) (w : World) : Calls Tryd.prog 38 #[.int .i64 k] w fun e w' => e = .returned (.tuple #[.string ⟨(wordOf k).toArray⟩, .int .i64 (manyOf k : Int)]) ∧ Below w.heap.size w w' := by
  by_cases h : 1 ≤ k ∧ k ≤ 13
  · exact word_in k h.1 h.2 w
  · have hs : Script.shape k = none := by unfold Script.shape; rw [if_neg h]
    have e1 : wordOf k = [] := by unfold wordOf; rw [hs]
    have e2 : manyOf k = 0 := by unfold manyOf; rw [hs]
    rw [e1, e2]
    clear e1 e2 hs
    by_cases h1 : k < 1
    · go_enter Tryd.func38, Tryd.ntmps38
      go_wp2_with fail
      go_ret2
      exact ⟨rfl, ((Below.refl _ w).alloc (Nat.le_refl _) _).alloc (by simp) _⟩
    · have h2 : 13 < k := by omega
      go_enter Tryd.func38, Tryd.ntmps38
      go_wp2_with fail
      go_ret2
      exact ⟨rfl, ((Below.refl _ w).alloc (Nat.le_refl _) _).alloc (by simp) _⟩

theorem in_any (x : Int) (w : World) : Calls Tryd.prog 44 #[.int .i64 x] w fun e w' => e = .returned (.bool (Script.small x)) ∧ w' = w := by
  have e : Script.small x = (decide (-1000000000 ≤ x) && decide (x ≤ 1000000000)) := rfl
  rw [e]
  clear e
  by_cases h1 : -1000000000 ≤ x
  · by_cases h2 : x ≤ 1000000000
    · rw [decide_eq_true h1, decide_eq_true h2]
      go_enter Tryd.func44, Tryd.ntmps44
      go_wp2_with fail
      go_ret
      exact ⟨rfl, rfl⟩
    · rw [decide_eq_true h1, decide_eq_false h2]
      go_enter Tryd.func44, Tryd.ntmps44
      go_wp2_with fail
      go_ret
      exact ⟨rfl, rfl⟩
  · rw [decide_eq_false h1]
    go_enter Tryd.func44, Tryd.ntmps44
    go_wp2_with fail
    go_ret
    exact ⟨rfl, rfl⟩

theorem dig_fin : ∀ r : Fin 10, (([48, 49, 50, 51, 52, 53, 54, 55, 56, 57] : List UInt8).drop r.val).take 1 = [UInt8.ofNat (48 + r.val)] := by decide

theorem dig_piece (r : Nat) (h : r < 10) : ∀ V : World, (Instr.slice 9 (.string ⟨#[48, 49, 50, 51, 52, 53, 54, 55, 56, 57]⟩) (some (.int .i64 (r : Int))) (some (.int .i64 ((r : Int) + 1))) none).run Tryd.prog V = .ok (.string ⟨#[UInt8.ofNat (48 + r)]⟩) V := by
  intro V
  have h1 := run_piece [48, 49, 50, 51, 52, 53, 54, 55, 56, 57] r (r + 1) (by omega) (by simp; omega) V
  rw [show r + 1 - r = 1 from by omega, dig_fin ⟨r, h⟩] at h1
  exact h1

theorem nDigits_le (u : Nat) (h : u ≤ 100000000000) : (Lib.decDigits u).length ≤ 12 := by
  rw [Lib.decDigits_length]
  exact nDigits_small 11 u (by omega)

set_option maxRecDepth 100000 in
set_option maxHeartbeats 1000000 in
theorem digits_nat : ∀ (u : Nat), u ≤ 100000000000 → ∀ w : World, Calls Tryd.prog 46 #[.int .i64 (u : Int)] w fun e w' => e = .returned (.string ⟨(Lib.decDigits u).toArray⟩) ∧ w' = w := by
  intro u
  induction u using Nat.strongRecOn with
  | _ u ih =>
    intro hu w
    have HR : Hid ((u : Int).tmod 10 = ((u % 10 : Nat) : Int)) := by show _ = _; rw [Int.tmod_eq_emod_of_nonneg (by omega)]; omega
    have HQ : Hid ((u : Int).tdiv 10 = ((u / 10 : Nat) : Int)) := by show _ = _; rw [Int.tdiv_eq_ediv_of_nonneg (by omega)]; omega
    obtain ⟨d, hd⟩ : ∃ d, d = UInt8.ofNat (48 + u % 10) := ⟨_, rfl⟩
    have HD := Lib.hid hd
    have hdp := dig_piece (u % 10) (Nat.mod_lt _ (by omega))
    rw [← hd] at hdp
    have hr10 : u % 10 < 10 := Nat.mod_lt _ (by omega)
    have hrm := HR.out
    have hqm := HQ.out
    by_cases h10 : u < 10
    · have e : Lib.decDigits u = [d] := by rw [HD.out, Lib.decDigits, dif_pos h10, Nat.mod_eq_of_lt h10]
      have E := Lib.hid e
      rw [E.out]
      clear e hd HD HR HQ E hqm ih
      generalize u % 10 = r at *
      go_enter Tryd.func46, Tryd.ntmps46
      go_wp2_with fail
      go_ret
      exact ⟨rfl, rfl⟩
    · have IH := Lib.hid (ih (u / 10) (by omega) (by omega) w)
      have e : Lib.decDigits u = Lib.decDigits (u / 10) ++ [d] := by rw [HD.out, Lib.decDigits, dif_neg h10]
      have hln := nDigits_le (u / 10) (by omega)
      have hadd : ∀ V : World, (Op.stringOp .add ⟨(Lib.decDigits (u / 10)).toArray⟩ ⟨#[d]⟩).run Tryd.prog V = .ok (.string ⟨(Lib.decDigits (u / 10) ++ [d]).toArray⟩) V := fun V => run_string_add_lists _ (Lib.decDigits (u / 10)) [d] (by omega) (by simp)
      rw [e]
      have i1 : ¬ (u : Int) < 0 := by omega
      have i2 : ¬ (u : Int) < 10 := by omega
      have hq : u / 10 ≤ 100000000000 := by omega
      have i3 : (u : Int) ≤ 100000000000 := by omega
      clear e ih hln hd HD HR HQ hu h10
      generalize u % 10 = r at *
      generalize u / 10 = q at *
      generalize Lib.decDigits q = L at *
      go_enter Tryd.func46, Tryd.ntmps46
      go_wp2_with fail
      refine IH.out.mono ?_
      rintro e w1 ⟨rfl, rfl⟩
      go_wp2_with fail
      go_ret
      exact ⟨rfl, rfl⟩

theorem digits_any (x : Int) (h1 : -100000000000 ≤ x) (h2 : x ≤ 100000000000) (w : World) : Calls Tryd.prog 46 #[.int .i64 x] w fun e w' => e = .returned (.string ⟨(Lib.itoa x).toArray⟩) ∧ w' = w := by
  by_cases hx : x < 0
  · obtain ⟨u, rfl⟩ : ∃ u : Nat, x = -(u : Int) := ⟨(-x).toNat, by omega⟩
    have e : Lib.itoa (-(u : Int)) = 45 :: Lib.decDigits u := by
      unfold Lib.itoa
      rw [if_pos hx]
      congr 2
      omega
    rw [e]
    have D := Lib.hid (digits_nat u (by omega) w)
    have hln := nDigits_le u (by omega)
    have hadd : ∀ V : World, (Op.stringOp .add ⟨#[45]⟩ ⟨(Lib.decDigits u).toArray⟩).run Tryd.prog V = .ok (.string ⟨(45 :: Lib.decDigits u).toArray⟩) V := fun V => run_string_add_lists _ [45] (Lib.decDigits u) (by simp) (by omega)
    clear e hln
    generalize Lib.decDigits u = L at *
    go_enter Tryd.func46, Tryd.ntmps46
    go_wp2_with fail
    refine D.out.mono ?_
    rintro e w1 ⟨rfl, rfl⟩
    go_wp2_with fail
    go_ret
    exact ⟨rfl, rfl⟩
  · obtain ⟨u, rfl⟩ : ∃ u : Nat, x = (u : Int) := ⟨x.toNat, by omega⟩
    have e : Lib.itoa (u : Int) = Lib.decDigits u := by
      unfold Lib.itoa
      rw [if_neg hx, Int.toNat_natCast]
    rw [e]
    exact digits_nat u (by omega) w

set_option maxHeartbeats 1000000 in
theorem name_any (l : List UInt8) (w : World) (hl : l.length ≤ 4000000000) : Calls Tryd.prog 45 #[.string ⟨⟨l⟩⟩] w fun e w' => e = .returned (.bool (Script.named l)) ∧ w' = w := by
  have HR : Hid (∃ t, t = Script.named l) := ⟨_, rfl⟩
  obtain ⟨t, ht⟩ := HR.out
  rw [← ht]
  have HT := Lib.hid ht
  have HSZ : Hid ((ByteArray.mk ⟨l⟩).size = l.length) := rfl
  obtain ⟨n, hn⟩ : ∃ n, n = l.length := ⟨_, rfl⟩
  have HN := Lib.hid hn
  have hsz : (ByteArray.mk ⟨l⟩).size = n := by rw [HSZ.out, hn]
  rw [← hn] at hl
  clear ht HR hn HSZ
  go_enter Tryd.func45, Tryd.ntmps45
  go_wp2_with fail
  go_loop [3] (fun i => ∃ j : Nat, j ≤ n ∧ i = .int .i64 j ∧ (l.take j).all Script.letter = true) (fun i => n - (intOf i).toNat)
  case atStart => exact ⟨0, by omega, rfl, rfl⟩
  case round =>
    obtain ⟨j, hj, rfl, hz⟩ := hrel
    have HZ := Lib.hid hz
    clear hz
    by_cases hjn : j < n
    · obtain ⟨c, hc⟩ : ∃ c, l[j]? = some c := ⟨l[j]'(by rw [← HN.out]; exact hjn), List.getElem?_eq_getElem _⟩
      have hat := run_at hc
      have HC := Lib.hid hc
      have HLT : Hid (Script.letter c = ((decide (97 ≤ c.toNat) && decide (c.toNat ≤ 122)) || (decide (48 ≤ c.toNat) && decide (c.toNat ≤ 57)))) := rfl
      have HNO : Hid (Script.letter c = false → t = false) := by
        intro h
        rw [HT.out]
        unfold Script.named
        have : l.all Script.letter = false := by
          rw [List.all_eq_false]
          exact ⟨c, List.mem_of_getElem? HC.out, by rw [h]; decide⟩
        rw [this, Bool.and_false]
      have HYES : Hid (Script.letter c = true → (l.take (j + 1)).all Script.letter = true) := by
        intro h
        rw [take_snoc HC.out, List.all_append, HZ.out]
        simp [h]
      have hc256 : c.toNat < 256 := c.toNat_lt
      clear hc
      generalize c.toNat = k at *
      by_cases hlt : (97 ≤ k ∧ k ≤ 122) ∨ (48 ≤ k ∧ k ≤ 57)
      · have HY2 := Lib.hid (HYES.out (by rw [HLT.out]; simpa using hlt))
        clear HYES HNO HLT
        rcases hlt with ⟨h1, h2⟩ | ⟨h1, h2⟩
        · have i1 : (97 : Int) ≤ (k : Int) := by omega
          have i2 : (k : Int) ≤ 122 := by omega
          clear h1 h2
          go_wp2_with fail
          go_round
          case rel => exact ⟨j + 1, by omega, by go_num, HY2.out⟩
          case measure => simp [intOf]; omega
        · have i3 : ¬ (97 : Int) ≤ (k : Int) := by omega
          have i1 : (48 : Int) ≤ (k : Int) := by omega
          have i2 : (k : Int) ≤ 57 := by omega
          clear h1 h2
          go_wp2_with fail
          go_round
          case rel => exact ⟨j + 1, by omega, by go_num, HY2.out⟩
          case measure => simp [intOf]; omega
      · have HTF := Lib.hid (HNO.out (by rw [HLT.out]; simpa using hlt))
        clear HYES HNO HLT
        by_cases h1 : 97 ≤ k
        · have i1 : (97 : Int) ≤ (k : Int) := by omega
          have i2 : ¬ (k : Int) ≤ 122 := by omega
          have i3 : ¬ (k : Int) ≤ 57 := by omega
          have i4 : (48 : Int) ≤ (k : Int) := by omega
          clear h1 hlt
          go_wp2_with fail
          go_ret
          exact ⟨by rw [HTF.out]; rfl, rfl⟩
        · by_cases h4 : 48 ≤ k
          · have i1 : ¬ (97 : Int) ≤ (k : Int) := by omega
            have i3 : ¬ (k : Int) ≤ 57 := by omega
            have i4 : (48 : Int) ≤ (k : Int) := by omega
            clear h1 h4 hlt
            go_wp2_with fail
            go_ret
            exact ⟨by rw [HTF.out]; rfl, rfl⟩
          · have i1 : ¬ (97 : Int) ≤ (k : Int) := by omega
            have i4 : ¬ (48 : Int) ≤ (k : Int) := by omega
            clear h1 h4 hlt
            go_wp2_with fail
            go_ret
            exact ⟨by rw [HTF.out]; rfl, rfl⟩
    · obtain rfl : n = j := by omega
      have HTL : Hid (t = (decide (1 ≤ n) && decide (n ≤ 40))) := by
        show _ = _
        have hz := HZ.out
        rw [List.take_of_length_le (by rw [← HN.out]; exact Nat.le_refl _)] at hz
        rw [HT.out]
        unfold Script.named
        rw [hz, ← HN.out, Bool.and_true]
      by_cases h1 : 1 ≤ n
      · by_cases h2 : n ≤ 40
        · have HX : Hid (t = true) := by show _ = _; rw [HTL.out, decide_eq_true h1, decide_eq_true h2]; rfl
          have i1 : (1 : Int) ≤ (n : Int) := by omega
          have i2 : (n : Int) ≤ 40 := by omega
          clear h1 h2
          go_wp2_with fail
          go_ret
          exact ⟨by rw [HX.out]; rfl, rfl⟩
        · have HX : Hid (t = false) := by show _ = _; rw [HTL.out, decide_eq_true h1, decide_eq_false h2]; rfl
          have i1 : (1 : Int) ≤ (n : Int) := by omega
          have i2 : ¬ (n : Int) ≤ 40 := by omega
          clear h1 h2
          go_wp2_with fail
          go_ret
          exact ⟨by rw [HX.out]; rfl, rfl⟩
      · have HX : Hid (t = false) := by show _ = _; rw [HTL.out, decide_eq_false h1]; rfl
        have i1 : ¬ (1 : Int) ≤ (n : Int) := by omega
        clear h1
        go_wp2_with fail
        go_ret
        exact ⟨by rw [HX.out]; rfl, rfl⟩

end Go.Proofs.YtjcffbhgjmaicaaDoor
