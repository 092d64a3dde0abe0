/-
  Layer 7 (box): Pack.
-/
import Derived.Test.YtjnfnocmjpboiaaBoxHeads
import Derived.Test.YtjnfnocmjpboiaaBoxConcat
import Derived.Deep.OwnRows
namespace Go.Proofs.Ytjnfnocmjpboiaa
open Go.RowKit
open CrcMath BoxMath

theorem data_succ {cs : List (Nat × List Nat)} {k : Nat} {c : Nat × List Nat} (h : cs[k]? = some c) : dataOf (cs.take (k + 1)) = dataOf (cs.take k) ++ c.2 := by
  rw [take_snoc h, dataOf, List.flatMap_append]; simp [dataOf]
theorem data_le (cs : List (Nat × List Nat)) (k : Nat) : (dataOf (cs.take k)).length ≤ (dataOf cs).length := by
  conv => rhs; rw [← List.take_append_drop k cs, dataOf, List.flatMap_append, List.length_append]
  unfold dataOf; omega

theorem data_mem : ∀ {cs : List (Nat × List Nat)} {x : Nat × List Nat}, x ∈ cs → x.2.length ≤ (dataOf cs).length
  | c :: cs, x, h => by
    rw [dataOf, List.flatMap_cons, List.length_append]
    rcases List.mem_cons.1 h with rfl | h
    · omega
    · have := data_mem h
      unfold dataOf at this
      omega
  | [], _, h => by simp at h

theorem txt_made (W : World) (g n : Nat) (h : W.heap[g]? = some (.cells (madeCells #[.int .u8 0] n) 5)) : Txt W (some ⟨g, 0, none⟩) (List.replicate n 0) := by
  refine Txt.of_at (fun c hc => ?_) fun _ => ⟨g, 0, rfl, fun j u hj => ?_⟩
  · have := List.eq_of_mem_replicate hc; omega
  · rw [cell_of_row W g (0 + j) _ _ _ h]
    have hj' := List.getElem?_eq_some_iff.1 hj
    obtain ⟨hlt, hu⟩ := hj'
    simp at hlt hu
    subst hu
    have hl := congrArg (fun l => l[0 + j]?) (toList_madeCells_one (.int .u8 0) n)
    simp only [Nat.zero_add, Array.getElem?_toList, List.getElem?_replicate] at hl
    rw [Nat.zero_add, hl, if_pos hlt]; rfl

theorem slices7 (W : World) (A1 A2 A3 A4 : Option Addr) (c1 c2 c3 c4 n1 n2 n3 n4 : Nat) (l1 l2 l3 l4 : List Nat) (e1 : l1.length = n1) (e2 : l2.length = n2) (e3 : l3.length = n3) (e4 : l4.length = n4)
    (t1 : Txt W A1 l1) (t2 : Txt W A2 l2) (t3 : Txt W A3 l3) (t4 : Txt W A4 l4) :
    Slices (W.alloc (.cells #[.slice A1 n1 c1, .slice A2 n2 c2, .slice A3 n3 c3, .slice A4 n4 c4, .slice A3 n3 c3, .slice A2 n2 c2, .slice A1 n1 c1] 25)) (some ⟨W.heap.size, 0, none⟩) [l1, l2, l3, l4, l3, l2, l1] := by
  subst e1 e2 e3 e4
  have hb := (Below.refl W.heap.size W).alloc (Nat.le_refl _) (.cells #[.slice A1 l1.length c1, .slice A2 l2.length c2, .slice A3 l3.length c3, .slice A4 l4.length c4, .slice A3 l3.length c3, .slice A2 l2.length c2, .slice A1 l1.length c1] 25)
  intro i l hi
  match i, hi with
  | 0, hi | 6, hi => simp at hi; subst hi; exact ⟨_, _, A1, c1, rfl, by rw [World.cell?_alloc_new]; rfl, t1.below hb⟩
  | 1, hi | 5, hi => simp at hi; subst hi; exact ⟨_, _, A2, c2, rfl, by rw [World.cell?_alloc_new]; rfl, t2.below hb⟩
  | 2, hi | 4, hi => simp at hi; subst hi; exact ⟨_, _, A3, c3, rfl, by rw [World.cell?_alloc_new]; rfl, t3.below hb⟩
  | 3, hi => simp at hi; subst hi; exact ⟨_, _, A4, c4, rfl, by rw [World.cell?_alloc_new]; rfl, t4.below hb⟩
  | n + 7, hi => simp at hi

set_option maxHeartbeats 4000000 in
theorem pack_any (a : Option Addr) (n c : Nat) (cs : List (Nat × List Nat)) (w : World) (hn : cs.length = n) (hn2 : n ≤ 1024) (hl : 36 + 18 * n + (dataOf cs).length ≤ 4194304) (h : Chunks w a cs) :
    Calls Try.prog 12 #[.slice a n c] w fun e w' => ∃ v, e = .returned (.tuple #[v, .int .i64 0]) ∧ OwnB w' w.heap.size v (boxOf cs) ∧ Below w.heap.size w w' := by
  have hmk : ∀ W : World, (Instr.makeSlice 25 (.int .i64 4) (.int .i64 4)).run Try.prog W = .ok (.slice (some ⟨W.heap.size, 0, none⟩) 4 4) (W.alloc (.cells (madeCells #[.int .u8 0] 4) 5)) :=
    fun W => run_make_row' (P := Try.prog) 25 5 (.int .u8 0) 1 Try.underlying25 infoU8 rfl .i64 .i64 4 (by omega) (by omega) W
  have HM := Lib.hid hmk
  have HX := Lib.hid h
  have HN := Lib.hid hn
  obtain ⟨D, hD⟩ : ∃ D : Nat → List Nat, D = fun k => dataOf (cs.take k) := ⟨_, rfl⟩
  have HD := Lib.hid hD
  have hD0 : D 0 = [] := by rw [hD]; rfl
  have HD0 := Lib.hid hD0
  have HDL : Hid (∀ k, (D k).length ≤ (dataOf cs).length) := fun k => by rw [hD]; exact data_le cs k
  clear h hn hD hD0 hmk
  generalize hdl : (dataOf cs).length = dl at *
  have HDD := Lib.hid hdl
  clear hdl
  go_enter Try.func12, Try.ntmps12
  go_wp2_with fail
  go_loopw [4, 6, 22] (fun x _ i wr => ∃ k : Nat, k ≤ n ∧ i = .int .i64 k ∧ x = .int .i64 (36 + 18 * (n : Int) + ((D k).length : Nat)) ∧ Below w.heap.size w wr) (fun _ _ i _ => n - (intOf i).toNat)
  case atStart => exact ⟨0, by omega, rfl, by rw [HD0.out]; go_num, Below.refl _ _⟩
  case round =>
    obtain ⟨k, hk, rfl, rfl, hb⟩ := hrel
    have hdk := HDL.out k
    by_cases hkn : k < n
    · obtain ⟨⟨kd, l⟩, hck⟩ : ∃ x, cs[k]? = some x := ⟨cs[k]'(by rw [HN.out]; exact hkn), List.getElem?_eq_getElem _⟩
      obtain ⟨hkd, b, off, A, c', rfl, hc1, hc2, hlc, hcc, tx0⟩ := HX.out k kd l hck
      have hc1' := (hb.cell (p := ⟨b, off + k * 2, none⟩) (lt_of_cell hc1)).trans hc1
      have hc2' := (hb.cell (p := ⟨b, off + k * 2 + 1, none⟩) (lt_of_cell hc2)).trans hc2
      have HS : Hid ((D (k + 1)).length = (D k).length + l.length) := by show _ = _; rw [HD.out]; show (dataOf (cs.take (k + 1))).length = _; rw [data_succ hck, List.length_append]
      have hdk1 := HDL.out (k + 1)
      rw [HS.out] at hdk1
      clear hck hc1 hc2 tx0
      generalize (D k).length = d at *
      go_wp2_with fail
      go_roundw
      case rel => exact ⟨k + 1, by omega, by go_num, by rw [HS.out]; go_num, hb.alloc hb.size _⟩
      case measure => simp [intOf]; omega
    · obtain rfl : k = n := by omega
      have HDk : Hid (D k = dataOf cs) := by show _ = _; rw [HD.out]; show dataOf (cs.take k) = _; rw [List.take_of_length_le (by rw [HN.out]; exact Nat.le_refl _)]
      have hdk2 : (D k).length = dl := by rw [HDk.out, HDD.out]
      rw [hdk2] at *
      clear hdk2
      have hX1 := HX.out.below hb
      have HH := Lib.hid (heads_any a k c cs wr HN.out hn2 (fun x hx => by
        have h1 := data_mem hx
        rw [HDD.out] at h1; omega) hX1)
      clear hX1
      go_wp2_with fail
      refine HH.out.mono ?_
      rintro e w3 ⟨vf, vt, rfl, hof, hot, hb3⟩
      have HOF := Lib.hid hof
      have HOT := Lib.hid hot
      have HB3 := Lib.hid (hb.trans (hb3.mono hb.size))
      have hs3 := (hb.trans (hb3.mono hb.size)).size
      clear HH hb3 hb
      go_wp2_with fail
      go_loopw [9, 11, 46] (fun x _ i wr => ∃ j : Nat, j ≤ k ∧ i = .int .i64 j ∧ OwnB wr w3.heap.size x (D j) ∧ Below w3.heap.size w3 wr) (fun _ _ i _ => k - (intOf i).toNat)
      case atStart => exact ⟨0, by omega, rfl, by rw [HD0.out]; exact OwnB.none_, Below.refl _ _⟩
      case round =>
        clear hof hot
        obtain ⟨j, hj, rfl, ho, hbx⟩ := hrel
        by_cases hjk : j < k
        · obtain ⟨⟨kd, l⟩, hck⟩ : ∃ x, cs[j]? = some x := ⟨cs[j]'(by rw [HN.out]; exact hjk), List.getElem?_eq_getElem _⟩
          obtain ⟨hkd, b, off, A, c', rfl, hc1, hc2, hlc, hcc, tx0⟩ := HX.out j kd l hck
          have hbw := HB3.out.trans (hbx.mono hs3)
          have hc1' := (hbw.cell (p := ⟨b, off + j * 2, none⟩) (lt_of_cell hc1)).trans hc1
          have hc2' := (hbw.cell (p := ⟨b, off + j * 2 + 1, none⟩) (lt_of_cell hc2)).trans hc2
          have hbA := (Below.refl wr.heap.size wr).alloc (Nat.le_refl _) (.cells #[.int .u8 (kd : Int), .slice A l.length c'] 36)
          have tx1 := (tx0.below hbw).below hbA
          have hoA := ho.later hbA
          have hbA' := hbx.alloc hbx.size (.cells #[.int .u8 (kd : Int), .slice A l.length c'] 36)
          have HS : Hid (D (j + 1) = D j ++ l) := by show _ = _; rw [HD.out]; exact data_succ hck
          have hdk1 := HDL.out (j + 1)
          rw [HS.out, List.length_append] at hdk1
          clear hck hc1 hc2 tx0 hbw hbA ho hbx
          go_wp2_with (at_builtin; refine stop ?_)
          refine unstop (wpList_appendB rfl (.tmp 50) (.tmp 52) rfl rfl hoA rfl rfl tx1 (by omega) hbA'.size ?_)
          intro v2 w2 h2 hg2 _
          rw [← HS.out] at h2
          have hb2 : Below w3.heap.size w3 w2 := hbA'.grown hg2 hbA'.size (fun b hb => (hoA.lt b hb).1)
          clear hoA hbA' hg2 tx1 hdk1
          go_wp2_with fail
          go_roundw
          case rel => exact ⟨j + 1, by omega, by go_num, h2, hb2⟩
          case measure => simp [intOf]; omega
        · obtain rfl : j = k := by omega
          rw [HDk.out] at ho
          obtain ⟨Af, cf, rfl, _, _, tf⟩ := (HOF.out.later hbx).txt
          obtain ⟨At, ct, rfl, _, _, tt⟩ := (HOT.out.later hbx).txt
          obtain ⟨Ad, cd, rfl, _, _, td⟩ := ho.txt
          have hbM := (Below.refl wr.heap.size wr).alloc (Nat.le_refl _) (.cells (madeCells #[.int .u8 0] 4) 5)
          have tf1 := tf.below hbM
          have tt1 := tt.below hbM
          have td1 := td.below hbM
          have tn1 := txt_made (wr.alloc (.cells (madeCells #[.int .u8 0] 4) 5)) wr.heap.size 4 (heap_alloc_new _ _)
          have hbM' := HB3.out.trans ((hbx.alloc hbx.size (.cells (madeCells #[.int .u8 0] 4) 5)).mono hs3)
          have hmk := HM.out wr
          have ez : List.replicate 4 0 = [0, 0, 0, 0] := rfl
          rw [ez] at tn1
          have hsl := slices7 (wr.alloc (.cells (madeCells #[.int .u8 0] 4) 5)) Af At (some ⟨wr.heap.size, 0, none⟩) Ad cf ct 4 cd (fixedOf j).length (tableOf cs).length 4 (dataOf cs).length (fixedOf j) (tableOf cs) [0, 0, 0, 0] (dataOf cs) rfl rfl rfl rfl tf1 tt1 tn1 td1
          have hfl : [fixedOf j, tableOf cs, [0, 0, 0, 0], dataOf cs, [0, 0, 0, 0], tableOf cs, fixedOf j].flatten = boxOf cs := by
            simp [boxOf, HN.out]
          have hbl : (boxOf cs).length ≤ 900000000 := by
            rw [← hfl]
            simp only [List.flatten_cons, List.flatten_nil, List.length_append, List.length_nil, List.length_cons, fixedOf_len, tableOf_len, HDD.out, HN.out]
            omega
          have hc := concat_any _ 7 7 _ _ rfl (by omega) (by rw [hfl]; exact hbl) hsl
          rw [hfl, show (wr.alloc (.cells (madeCells #[.int .u8 0] 4) 5)).heap.size = wr.heap.size + 1 from by simp] at hc
          have HC := Lib.hid hc
          clear hc hsl hfl hbl tf1 tt1 td1 tn1 tf tt td ho hbM ez
          have hbN := hbM'.alloc hbM'.size (.cells #[.slice Af (fixedOf j).length cf, .slice At (tableOf cs).length ct, .slice (some ⟨wr.heap.size, 0, none⟩) 4 4, .slice Ad (dataOf cs).length cd, .slice (some ⟨wr.heap.size, 0, none⟩) 4 4, .slice At (tableOf cs).length ct, .slice Af (fixedOf j).length cf] 25)
          have HBN := Lib.hid hbN
          clear hbN hbM' HM HX HD HD0 HDL HDD HN hbx
          generalize (fixedOf j).length = nf at *
          generalize (tableOf cs).length = nt at *
          generalize (dataOf cs).length = nd at *
          go_wp2_with fail
          refine HC.out.mono ?_
          rintro e w' ⟨v', rfl, ho', hb'⟩
          go_wp2_with fail
          go_ret2
          exact ⟨v', rfl, ⟨ho'.1, ownsRow_base ho'.2 HBN.out.size⟩, HBN.out.trans (hb'.mono HBN.out.size)⟩

end Go.Proofs.Ytjnfnocmjpboiaa
