/-
  Layer 55 (script): reading a line.
-/
import Derived.Test.YtjcffbhgjmaicaaDoorScrReadE
namespace Go.Proofs.YtjcffbhgjmaicaaDoor
open Go.RowKit
open Go.ChangeMaps (setBlock)
open Script

set_option maxRecDepth 100000 in
set_option maxHeartbeats 4000000 in
theorem read_any (s : ByteArray) (w : World) (hs : s.size ≤ 1000000) (hrd : Ready w) :
    Calls Tryd.prog 21 #[.string s] w fun e w' => ReadRes w w' (Script.readOf s.data.toList) e ∧ Below w.heap.size w w' := by
  have HCAND := Lib.hid (readOf_cand s.data.toList)
  have hbs := Lib.splitB_data ⟨#[32]⟩ 0 (Lib.countB s ⟨#[32]⟩) s
  have hsp : Lib.splitK [32] 0 (Lib.count s.data.toList [32]) s.data.toList = Script.splitB s.data.toList := split_lib _
  have hbl := Lib.splitB_all ⟨#[32]⟩ (by decide) 0 _ s rfl
  have hcl := Lib.countB_le ⟨#[32]⟩ (by decide) _ s (Nat.le_refl _)
  obtain ⟨mx, hmx⟩ := hrd.max
  have HSP := Lib.hid (Tryd.strings_Split s ⟨#[32]⟩ mx (w.alloc (.cells (step0 0) 51)) (by omega) (by
    have hb : Below w.heap.size w (w.alloc (.cells (step0 0) 51)) := (Below.refl _ w).alloc (Nat.le_refl _) _
    exact (hb.cell (lt_of_cell hmx)).trans hmx) (by decide))
  have HRD := Lib.hid (fun (V : World) (hV : Below w.heap.size w V) => hrd.below hV)
  have HBS : Hid ((Lib.splitB ⟨#[32]⟩ 0 (Lib.countB s ⟨#[32]⟩) s).map (·.data.toList) = Script.splitB s.data.toList) := by
    show _ = _
    rw [hbs]; exact hsp
  generalize Lib.countB s ⟨#[32]⟩ = N at *
  generalize Lib.splitB ⟨#[32]⟩ 0 N s = BS at *
  clear hbs hsp hrd hmx
  rcases BS with _ | ⟨b0, bs⟩
  · simp at hbl
  obtain rfl : N = bs.length := by simpa using hbl.symm
  generalize hln : bs.length = n at *
  have HN := Lib.hid hln
  clear hbl hln
  unfold step0 stepCells emptyB at HSP
  simp only [List.length_nil] at HSP
  go_enter Tryd.func21, Tryd.ntmps21
  go_wp2_with fail
  refine HSP.out.mono ?_
  rintro e w1 ⟨rfl, hw1⟩
  have hal0 := (Below.refl w.heap.size w).alloc (Nat.le_refl _) (.cells #[.int .i64 0, .string ⟨#[]⟩, .int .i64 0, .int .i64 0, .int .i64 0, .int .i64 0, .int .i64 0, .slice none 0 0, .slice none 0 0, .slice none 0 0] 51)
  have HB1 : Hid (Below w.heap.size w w1) := by show Below _ _ _; rw [hw1]; exact hal0.alloc (by simp) _
  have HL1 : Hid (Strs w1 (some ⟨w.heap.size + 1, 0, none⟩) (b0 :: bs)) := by
    refine fun _ => ⟨_, _, rfl, fun j u hj => ?_⟩
    rw [hw1]
    have h := World.cell?_alloc_new (w.alloc (.cells #[.int .i64 0, .string ⟨#[]⟩, .int .i64 0, .int .i64 0, .int .i64 0, .int .i64 0, .int .i64 0, .slice none 0 0, .slice none 0 0, .slice none 0 0] 51)) (((b0 :: bs).map Value.string).toArray) 9 (0 + j)
    rw [World.size_alloc] at h
    rw [h]
    simpa using hj
  have HA1 : Hid (w1.heap[w.heap.size]? = some (.cells #[.int .i64 0, .string ⟨#[]⟩, .int .i64 0, .int .i64 0, .int .i64 0, .int .i64 0, .int .i64 0, .slice none 0 0, .slice none 0 0, .slice none 0 0] 51 (0, 0))) := by
    show _ = _
    rw [hw1, heap_alloc_old _ _ (by simp)]
    exact heap_alloc_new _ _
  have HS1 : Hid (w1.heap.size = w.heap.size + 2) := by show _ = _; rw [hw1]; simp
  rw [World.size_alloc]
  clear hw1 hal0 HSP
  go_wp2_with (first | (go_at_call 34; refine (shapes_any _).mono ?_; rintro e w5 ⟨rfl, rfl⟩))
  have hrg := run_range_map (P := Tryd.prog) ((w1.alloc (.cells #[.int .i64 0, .string ⟨#[]⟩, .int .i64 0, .int .i64 0, .int .i64 0, .int .i64 0, .int .i64 0, .slice none 0 0, .slice none 0 0, .slice none 0 0] 51)).alloc (.map shapeEntries 13)) 79 3 82 (w1.heap.size + 1) shapeEntries 13 Tryd.underlying79 (by
    have h := heap_alloc_new (w1.alloc (.cells #[.int .i64 0, .string ⟨#[]⟩, .int .i64 0, .int .i64 0, .int .i64 0, .int .i64 0, .int .i64 0, .slice none 0 0, .slice none 0 0, .slice none 0 0] 51)) (.map shapeEntries 13)
    rw [World.size_alloc] at h
    exact h)
  rw [World.size_alloc, World.size_alloc] at hrg
  rw [hrg]
  simp only [Result.andThen]
  rw [Oper.upon_value]
  clear hrg
  have HSC : Hid (ScanRel w1 b0.data.toList (((w1.alloc (.cells #[.int .i64 0, .string ⟨#[]⟩, .int .i64 0, .int .i64 0, .int .i64 0, .int .i64 0, .int .i64 0, .slice none 0 0, .slice none 0 0, .slice none 0 0] 51)).alloc (.map shapeEntries 13)).alloc (.mapIter (some (w1.heap.size + 1)) 13 #[] 13))) := by
    refine ⟨#[], 13, Nat.le_refl _, ?_, ?_, ?_, ?_⟩
    · have h := heap_alloc_new ((w1.alloc (.cells #[.int .i64 0, .string ⟨#[]⟩, .int .i64 0, .int .i64 0, .int .i64 0, .int .i64 0, .int .i64 0, .slice none 0 0, .slice none 0 0, .slice none 0 0] 51)).alloc (.map shapeEntries 13)) (.mapIter (some (w1.heap.size + 1)) 13 #[] 13)
      rw [World.size_alloc, World.size_alloc] at h
      exact h
    · have h := heap_alloc_new (w1.alloc (.cells #[.int .i64 0, .string ⟨#[]⟩, .int .i64 0, .int .i64 0, .int .i64 0, .int .i64 0, .int .i64 0, .slice none 0 0, .slice none 0 0, .slice none 0 0] 51)) (.map shapeEntries 13)
      rw [World.size_alloc] at h
      rw [heap_alloc_old _ _ (by simp)]
      exact h
    · rw [kindSeen_start, heap_alloc_old _ _ (by simp; omega), heap_alloc_old _ _ (by simp)]
      exact heap_alloc_new _ _
    · exact (((Below.refl _ w1).alloc (Nat.le_refl _) _).alloc (by simp) _).alloc (by simp; omega) _
  obtain ⟨w0, rfl⟩ : ∃ l, b0 = ⟨⟨l⟩⟩ := ⟨b0.data.toList, rfl⟩
  go_wp2_with fail
  go_loopw [21] (fun _ wr => ScanRel w1 w0 wr) (fun _ wr => scanLeft (w1.heap.size + 2) wr)
  case atStart => exact HSC.out
  case round =>
    clear HSC
    unfold ScanRel at hrel
    obtain ⟨seen, c0, hc0, hr, hm, ho, hb⟩ := hrel
    have HML : Hid (scanLeft (w1.heap.size + 2) wr = (leftOf shapeEntries seen).size) := by show _ = _; unfold scanLeft; rw [hr]
    have HM := Lib.hid hm
    have HR := Lib.hid hr
    have HO := Lib.hid ho
    have HB := Lib.hid hb
    clear hr hm ho hb
    go_wp2_with (at_next; refine wpList_next_shapes rfl _ rfl (w1.heap.size + 2) (w1.heap.size + 1) c0 seen rfl HR.out HM.out hc0 ?_ ?_)
    rotate_left
    · intro i wd m w2 hi hsh hw2 hen
      
      have hr2 : (setBlock w2 (w1.heap.size + 2) (.mapIter (some (w1.heap.size + 1)) 13 (seen.push i) 13)).heap[w1.heap.size + 2]? = some (.mapIter (some (w1.heap.size + 1)) 13 (seen.push i) 13) := heap_setBlock_at (o := .mapIter (some (w1.heap.size + 1)) 13 seen c0) (by rcases hw2 with rfl | rfl <;> exact HR.out) _
      have hm2 : (setBlock w2 (w1.heap.size + 2) (.mapIter (some (w1.heap.size + 1)) 13 (seen.push i) 13)).heap[w1.heap.size + 1]? = some (.map shapeEntries 13) := by
        rw [heap_setBlock_ne _ _ _ (by omega)]
        rcases hw2 with rfl | rfl <;> exact HM.out
      have ho2 : (setBlock w2 (w1.heap.size + 2) (.mapIter (some (w1.heap.size + 1)) 13 (seen.push i) 13)).heap[w1.heap.size]? = some (.cells (step0 (kindSeen w0 seen)) 51 (0, 0)) := by
        rw [heap_setBlock_ne _ _ _ (by omega)]
        rcases hw2 with rfl | rfl <;> exact HO.out
      have hb2 : Below w1.heap.size w1 (setBlock w2 (w1.heap.size + 2) (.mapIter (some (w1.heap.size + 1)) 13 (seen.push i) 13)) := by
        refine below_setBlock ?_ (by omega) _
        rcases hw2 with rfl | rfl
        · exact HB.out
        · exact HB.out.drew
      unfold shapeVal at hen ⊢
      simp only at hen ⊢
      generalize setBlock w2 (w1.heap.size + 2) (.mapIter (some (w1.heap.size + 1)) 13 (seen.push i) 13) = W2 at *
      have HR2 := Lib.hid hr2
      have HM2 := Lib.hid hm2
      have HB2 := Lib.hid hb2
      have HSH := Lib.hid hsh
      have HI := Lib.hid hi
      obtain ⟨bl, ol, hbl, hcl2⟩ := HL1.out.at_ (by simp)
      injection hbl with hbl
      injection hbl with hbl1 hbl2 _
      subst hbl1 hbl2
      have l0 := hcl2 0 _ rfl
      have l0' : W2.cell? ⟨w.heap.size + 1, 0, none⟩ = some (.string ⟨⟨w0⟩⟩) := (hb2.cell (lt_of_cell l0)).trans l0
      have l0'' : (W2.alloc (.cells #[.string ⟨wd.toArray⟩, .int .i64 (m : Int)] 82)).cell? ⟨w.heap.size + 1, 0, none⟩ = some (.string ⟨⟨w0⟩⟩) := (((Below.refl _ W2).alloc (Nat.le_refl _) _).cell (lt_of_cell l0')).trans l0'
      have hlw : w1.heap.size < W2.heap.size := (Array.getElem?_eq_some_iff.1 ho2).1
      have HLW := Lib.hid hlw
      have HO2 := Lib.hid ho2
      clear hr2 hm2 hb2 hsh hi hcl2 l0 l0' hw2 HR HM HO HB hlw ho2
      have HR3 := Lib.hid (fun (V : World) (hV : Below W2.heap.size W2 V) => (hV.block _ (Array.getElem?_eq_some_iff.1 HR2.out).1).trans HR2.out)
      have HM3 := Lib.hid (fun (V : World) (hV : Below W2.heap.size W2 V) => (hV.block _ (Array.getElem?_eq_some_iff.1 HM2.out).1).trans HM2.out)
      have HO3 := Lib.hid (fun (V : World) (hV : Below W2.heap.size W2 V) => (hV.block _ HLW.out).trans HO2.out)
      clear HR2 HM2 HO2
      by_cases heq : wd = w0
      · subst heq
        go_wp2_with fail
        go_quiet (fail)
        refine k_at (K := _) ?_
        intro W3 hW3
        have hb3 : Below W2.heap.size W2 W3 := by rw [hW3]; exact below_drewL ((Below.refl _ W2).alloc (Nat.le_refl _) _) _
        have HB3 := Lib.hid hb3
        have ho3 := HO3.out W3 hb3
        unfold step0 stepCells at ho3
        obtain ⟨⟨z0, -⟩, y0, -⟩ := ten_cells ho3
        have HO4 := Lib.hid ho3
        clear hW3 hb3 ho3 l0''
        go_wp2_with fail
        go_roundw
        case rel =>
          refine ⟨seen.push i, 13, Nat.le_refl _, ?_, ?_, ?_, ?_⟩
          · rw [Below.heap_setCell _ _ _ _ (by show w1.heap.size + 2 ≠ w1.heap.size; omega)]
            exact HR3.out _ HB3.out
          · rw [Below.heap_setCell _ _ _ _ (by show w1.heap.size + 1 ≠ w1.heap.size; omega)]
            exact HM3.out _ HB3.out
          · rw [kindSeen_hit HI.out rfl]
            exact (Lib.heap_setCell_same HO4.out _).trans rfl
          · exact (HB2.out.trans (HB3.out.mono HB2.out.size)).setCell (p := ⟨w1.heap.size, 0, none⟩) (Nat.le_refl _) _
        case measure =>
          have hr4 : (W3.setCell ⟨w1.heap.size, 0, none⟩ (.int .i64 ((i : Int) + 1))).heap[w1.heap.size + 2]? = some (.mapIter (some (w1.heap.size + 1)) 13 (seen.push i) 13) := by
            rw [Below.heap_setCell _ _ _ _ (by show w1.heap.size + 2 ≠ w1.heap.size; omega)]
            exact HR3.out _ HB3.out
          rw [HML.out]
          unfold scanLeft
          rw [hr4]
          exact HSH.out
      · have hne : (wd == w0) = false := by rw [beq_eq_false_iff_ne]; exact heq
        go_wp2_with fail
        go_quiet (fail)
        refine k_at (K := _) ?_
        intro W3 hW3
        have hb3 : Below W2.heap.size W2 W3 := by rw [hW3]; exact below_drewL ((Below.refl _ W2).alloc (Nat.le_refl _) _) _
        have HB3 := Lib.hid hb3
        clear hW3 hb3 l0''
        go_wp2_with fail
        go_roundw
        case rel =>
          refine ⟨seen.push i, 13, Nat.le_refl _, HR3.out _ HB3.out, HM3.out _ HB3.out, ?_, HB2.out.trans (HB3.out.mono HB2.out.size)⟩
          rw [kindSeen_miss HI.out heq]
          exact HO3.out _ HB3.out
        case measure =>
          rw [HML.out]
          unfold scanLeft
          rw [HR3.out _ HB3.out]
          exact HSH.out
    · intro h0
      have HK := Lib.hid (kindSeen_end (w0 := w0) (seen := seen) (by rw [h0]; rfl))
      rw [HK.out] at HO
      have HKS := Lib.hid (fun (h : kindOf w0 ≠ 0) => kindOf_shape h)
      have HKR := Lib.hid (kindOf_range w0)
      have HAV := Lib.hid (fun (V : World) (hV : Below w1.heap.size w1 V) => (hV.block w.heap.size (by have := HS1.out; omega)).trans HA1.out)
      have HBB := Lib.hid (fun (V : World) (hV : Below w1.heap.size w1 V) => HB1.out.trans (hV.mono HB1.out.size))
      have HCW : Hid (candW (splitB s.data.toList) = (if kindOf w0 = 0 then none else if kindOf w0 = 1 then (match bs.map (·.data.toList) with | [] => none | nm :: ws' => candN 1 nm ws') else candN (kindOf w0) [] (bs.map (·.data.toList)))) := by
        show _ = _
        rw [← HBS.out]
        rfl
      have HSB : Hid (∀ b ∈ bs, b.size ≤ 1000000) := by
        intro b hb
        have h1 := splitB_le s.data.toList b.data.toList (by rw [← HBS.out]; exact List.mem_map_of_mem (List.mem_cons_of_mem _ hb))
        rw [Array.length_toList, Array.length_toList] at h1
        exact Nat.le_trans h1 hs
      clear HML HR HM HK h0 HBS
      generalize kindOf w0 = K at *
      clear HA1
      unfold step0 at HO
      have hab := HAV.out _ HB.out
      obtain ⟨⟨d0, d1, d2, d3, d4, d5, d6, d7, d8, d9⟩, f0, f1, f2, f3, f4, f5, f6, f7, f8, f9⟩ := ten_cells hab
      have hob := HO.out
      unfold stepCells at hob
      obtain ⟨⟨z0, -⟩, y0, -⟩ := ten_cells hob
      clear hab hob
      by_cases hK : K = 0
      · subst hK
        have HRES : Hid (Script.readOf s.data.toList = none) := by show _ = _; rw [HCAND.out, HCW.out, if_pos rfl]
        clear HKS HKR HCW HSB HL1 HCAND
        go_wp2_with fail
        (try simp only [Exit.inBlock, Exit.then])
        refine bodyPost_ret (by simp [results, Tryd.results21, go_sem, d0, d1, d2, d3, d4, d5, d6, d7, d8, d9]; try rfl) rfl ?_
        refine ⟨?_, ?_⟩
        · unfold ReadRes
          rw [HRES.out]
          exact ⟨0, ⟨#[]⟩, 0, 0, 0, 0, Script.emptyB, none, none, none, 0, 0, 0, rfl⟩
        · exact exit_below (HBB.out _ HB.out)
      · have hkb : (K == 0) = false := by rw [beq_eq_false_iff_ne]; exact hK
        clear d0 d1 d2 d3 d4 d5 d6 d7 d8 d9 f0 f1 f2 f3 f4 f5 f6 f7 f8 f9
        obtain ⟨A1, hA1, hA2⟩ := tail_strs (some ⟨w.heap.size + 1, 0, none⟩) (n + 1) (n + 1) (Nat.le_refl _) (by unfold maxLen; omega) (by omega)
        rw [Nat.add_sub_cancel] at hA1
        have HA2 := Lib.hid (hA2 w1 (⟨⟨w0⟩⟩ :: bs) (by rw [List.length_cons, HN.out]) HL1.out)
        rw [List.drop_one, List.tail_cons] at HA2
        clear hA2 HL1
        go_upto_if 41 with fail
        go_cut [4] (fun s4 wx => MidRel w1 K (candW (splitB s.data.toList)) s4 wx)
        case first =>
          
          by_cases hK1 : K = 1
          · subst hK1
            rcases bs with _ | ⟨b1, bs⟩
            · obtain rfl : n = 0 := by have := HN.out; simpa using this.symm
              have HRES : Hid (Script.readOf s.data.toList = none) := by show _ = _; rw [HCAND.out, HCW.out, if_neg (by omega), if_pos rfl]; rfl
              have hab := HAV.out _ HB.out
              obtain ⟨⟨d0, d1, d2, d3, d4, d5, d6, d7, d8, d9⟩, f0, f1, f2, f3, f4, f5, f6, f7, f8, f9⟩ := ten_cells hab
              clear hab
              go_wp2_with fail
              (try simp only [Exit.inBlock, Exit.then])
              refine bodyPost_ret (by simp [results, Tryd.results21, go_sem, d0, d1, d2, d3, d4, d5, d6, d7, d8, d9]; try rfl) rfl ?_
              refine ⟨?_, ?_⟩
              · unfold ReadRes
                rw [HRES.out]
                exact ⟨0, ⟨#[]⟩, 0, 0, 0, 0, Script.emptyB, none, none, none, 0, 0, 0, rfl⟩
              · exact exit_below (HBB.out _ HB.out)
            · obtain ⟨n, rfl⟩ : ∃ m, n = m + 1 := ⟨bs.length, by have := HN.out; simpa using this.symm⟩
              have HN2 : Hid (bs.length = n) := by have := HN.out; show _ = _; simpa using this
              obtain ⟨bl, ol, rfl, hcl3⟩ := HA2.out.at_ (by simp)
              have l0 := hcl3 0 _ rfl
              rw [Nat.add_zero] at l0
              have hlt := lt_of_cell l0
              have hne1 : w1.heap.size ≠ bl := fun e => by have : bl < w1.heap.size := hlt; omega
              have hne2 : bl ≠ w1.heap.size := fun e => hne1 e.symm
              have l1 := (HB.out.cell hlt).trans l0
              obtain ⟨A2, hA2r, hA22⟩ := tail_strs (some ⟨bl, ol, none⟩) (n + 1) (n + 1) (Nat.le_refl _) (by unfold maxLen; omega) (by omega)
              rw [Nat.add_sub_cancel] at hA2r
              have HT2 := Lib.hid (hA22 w1 (b1 :: bs) (by rw [List.length_cons, HN2.out]) HA2.out)
              rw [List.drop_one, List.tail_cons] at HT2
              have hob := HO.out
              unfold stepCells at hob
              obtain ⟨⟨-, z1, -⟩, -, y1, -⟩ := ten_cells hob
              have HOB := Lib.hid hob
              clear hcl3 hA22 hob l0 hlt
              go_wp2_with fail
              go_region_held3 (fun V => V.cell? ⟨bl, ol, none⟩ = some (.string b1)) (go_keep) (fail)
              all_goals
                go_wp2_with fail
                go_meet
                case rel =>
                  unfold MidRel
                  refine ⟨A2, n, n, b1, bs, rfl, HN2.out, Nat.le_refl _, by unfold maxLen; omega, by omega, HT2.out, fun b hb => HSB.out b (List.mem_cons_of_mem _ hb), HSB.out b1 (by simp), ?_, ?_, ?_⟩
                  · exact (Lib.heap_setCell_same HOB.out _).trans rfl
                  · rw [HCW.out, if_neg (by omega)]; rfl
                  · exact (HB.out.setCell (p := ⟨w1.heap.size, 1, none⟩) (Nat.le_refl _) _).drew
          · have hk1 : (K == 1) = false := by rw [beq_eq_false_iff_ne]; exact hK1
            go_wp2_with fail
            go_meet
            case rel =>
              unfold MidRel
              refine ⟨A1, n, n, ⟨#[]⟩, bs, rfl, HN.out, Nat.le_refl _, by unfold maxLen; omega, by omega, HA2.out, HSB.out, by decide, HO.out, ?_, HB.out⟩
              rw [HCW.out, if_neg hK, if_neg hK1]
        case rest =>
          clear hA1 HA2 HSB HCW HO HB HN hcl
          unfold MidRel at hcut
          obtain ⟨A, c, m, nm, ws, rfl, hwn, hmc, hcm, hm1, hst, hsz, hnm, hob, hcw, hbw⟩ := hcut
          have HWN := Lib.hid hwn
          have HST := Lib.hid hst
          have HSZ := Lib.hid hsz
          have HOB := Lib.hid hob
          have HCW := Lib.hid hcw
          have HBW := Lib.hid hbw
          unfold maxLen at hcm
          clear hwn hst hsz hob hcw hbw
          go_wp2_with fail
          go_loopw [8, 54] (fun v i wr2 => NumRel wc ws v i wr2) (fun _ i _ => m - (intOf i).toNat)
          case atStart =>
            exact ⟨0, [], by omega, rfl, rfl, OwnI.none_, Below.refl _ _⟩
          case round =>
            unfold NumRel at hrel
            obtain ⟨j, L, hj, rfl, hnL, hown, hbl⟩ := hrel
            rw [HWN.out] at hj
            have HNL := Lib.hid hnL
            have HOW := Lib.hid hown
            have HBL := Lib.hid hbl
            have HB3 := Lib.hid (HBW.out.trans (hbl.mono HBW.out.size))
            clear hnL hown hbl
            by_cases hjm : j < m
            · 
              obtain ⟨b, hb⟩ : ∃ b, ws[j]? = some b := ⟨ws[j]'(by rw [HWN.out]; exact hjm), List.getElem?_eq_getElem _⟩
              have HBJ := Lib.hid hb
              obtain ⟨ba, oa, rfl, hcs⟩ := HST.out.at_ (by rw [HWN.out]; omega)
              have l0 := hcs j b hb
              have l1 := (HB3.out.cell (lt_of_cell l0)).trans l0
              have HAT := Lib.hid (atoi_any b _ (by have := HSZ.out b (List.mem_of_getElem? hb); omega) (HRD.out _ (HBB.out _ HB3.out)))
              clear hcs l0 hb
              go_wp2_with fail
              refine HAT.out.mono ?_
              rintro e w3 ⟨hres, hb3⟩
              have HB4 := Lib.hid (HB3.out.trans (hb3.mono HB3.out.size))
              have HBN := Lib.hid (HBL.out.trans (hb3.mono HBL.out.size))
              have HOW3 := Lib.hid (HOW.out.later hb3)
              clear HAT hb3 l1 HOW HB3 HBL
              cases hnw : numW b.data.toList with
              | none =>
                rw [hnw] at hres
                obtain ⟨x, t, p, rfl⟩ := hres
                have HRES : Hid (Script.readOf s.data.toList = none) := by
                  show _ = _
                  rw [HCAND.out, HCW.out]
                  unfold candN
                  rw [numsOf_none (List.mem_map_of_mem (List.mem_of_getElem? HBJ.out)) hnw]
                have hab := HAV.out _ HB4.out
                obtain ⟨⟨d0, d1, d2, d3, d4, d5, d6, d7, d8, d9⟩, f0, f1, f2, f3, f4, f5, f6, f7, f8, f9⟩ := ten_cells hab
                clear hab hnw
                go_wp2_with fail
                (try simp only [Exit.inBlock, Exit.then])
                refine bodyPost_ret (by simp [results, Tryd.results21, go_sem, d0, d1, d2, d3, d4, d5, d6, d7, d8, d9]; try rfl) rfl ?_
                refine ⟨?_, ?_⟩
                · unfold ReadRes
                  rw [HRES.out]
                  exact ⟨0, ⟨#[]⟩, 0, 0, 0, 0, Script.emptyB, none, none, none, 0, 0, 0, rfl⟩
                · exact exit_below (HBB.out _ HB4.out)
              | some x =>
                rw [hnw] at hres
                obtain rfl := hres
                have HNW := Lib.hid hnw
                clear hnw
                go_wp2_with (at_builtin; refine stop ?_)
                have hal := (Below.refl w3.heap.size w3).alloc (Nat.le_refl _) (.cells #[.int .i64 x] 3)
                have ho4 := HOW3.out.later hal
                have hb4 := HBN.out.alloc HBN.out.size (.cells #[.int .i64 x] 3)
                refine unstop (wpList_appendI rfl (.tmp 66) (.tmp 68) rfl rfl ho4 rfl (by rfl) (ints_new1 w3 _ x) ?_ hb4.size ?_)
                · have h1 := numsOf_length HNL.out
                  rw [List.length_map, List.length_take] at h1
                  simp only [List.length_cons, List.length_nil]
                  omega
                intro v5 w5 h5 hg5
                have hb5 := below_appendI hb4 ho4 (Nat.le_refl _) hg5
                clear hal ho4 hb4 hg5
                go_wp2_with fail
                go_roundw
                case rel =>
                  unfold NumRel
                  refine ⟨j + 1, L ++ [x], by rw [HWN.out]; omega, by go_num, ?_, h5, hb5⟩
                  rw [take_snoc HBJ.out, List.map_append, numsOf_append, HNL.out]
                  simp only [List.map_cons, List.map_nil, numsOf, HNW.out]
                case measure => simp [intOf]; omega
            · obtain rfl : j = m := by omega
              rw [List.take_of_length_le (by rw [HWN.out]; exact Nat.le_refl _)] at HNL
              have HM4 : Hid (manyOf K ≤ 4) := shapes_many _ (shape_mem (HKS.out hK)).1
              have HCN : Hid (candW (splitB s.data.toList) = (if L.length < manyOf K then none
                else if K = 1 then (match bodyOf (L.drop (manyOf K)) with | none => none | some b => some { kind := K, name := nm.data.toList, n := Script.pad (L.take (manyOf K)), body := b })
                else if manyOf K < L.length then none
                else some { kind := K, name := nm.data.toList, n := Script.pad (L.take (manyOf K)), body := emptyB })) := by
                show _ = _
                rw [HCW.out]
                unfold candN
                rw [HNL.out]
                rfl
              have HOBV := Lib.hid (fun (V : World) (hV : Below wr.heap.size wr V) => ((HBL.out.trans (hV.mono HBL.out.size)).block _ (Array.getElem?_eq_some_iff.1 HOB.out).1).trans HOB.out)
              have HBV := Lib.hid (fun (V : World) (hV : Below wr.heap.size wr V) => HB3.out.trans (hV.mono HB3.out.size))
              have l1 := look_shape (w := (wr.alloc (.map shapeEntries 13)).drew) (r := wr.heap.size) (shapesAt_new wr) (HKS.out hK) false
              simp only [shapeVal, if_false, Bool.false_eq_true] at l1
              have hfld := field_shape
              have HC0 := Lib.hid (fun (V : World) (hV : Below wr.heap.size wr V) => (⟨hV, (ten_cells (HOBV.out V hV)).1.1⟩ : Below wr.heap.size wr V ∧ V.cell? ⟨w1.heap.size, 0, none⟩ = some (.int .i64 K)))
              have b1 := (Below.refl wr.heap.size wr)
              obtain ⟨a1, c1, rfl, hle, hcm1, hin⟩ := HOW.out.ints
              have HIN := Lib.hid hin
              unfold maxLen at hcm1
              have HHI := Lib.hid (fun (V : World) (hV : ∀ k, wc.heap.size ≤ k → k < wr.heap.size → V.heap[k]? = wr.heap[k]?) => ownsRow_high (show wr.ownsRow wc.heap.size 3 1 (.slice a1 L.length c1) L.length (L.map intCell) from HOW.out) hV)
              have HLW : Hid (w1.heap.size < wc.heap.size) := (Array.getElem?_eq_some_iff.1 HOB.out).1
              have hql : L.length ≤ 1000001 := by
                have h1 := numsOf_length HNL.out
                rw [List.length_map, HWN.out] at h1
                omega
              have HQ : Hid (∃ q, q = L.length) := ⟨_, rfl⟩
              obtain ⟨q, hq⟩ := HQ.out
              have HQL := Lib.hid hq
              rw [← hq] at hle hql ⊢
              obtain ⟨mk, hmk⟩ : ∃ mk, mk = manyOf K := ⟨_, rfl⟩
              have HMK := Lib.hid hmk
              rw [← hmk] at l1 HCN HM4
              rw [← hq] at HCN
              clear hin hq hmk HQ HOW HCW HOB HWN HST HSZ HNL hj hjm HKS
              go_wp2_with fail
              go_region_held3 (fun V => Below wr.heap.size wr V ∧ V.cell? ⟨w1.heap.size, 0, none⟩ = some (.int .i64 K))
                (first
                  | exact HC0.out _ b1.drew
                  | exact HC0.out _ (b1.alloc (Nat.le_refl _) _).drew)
                (first
                  | (go_at_call 34; refine (shapes_any _).mono ?_; rintro e w5 ⟨rfl, rfl⟩))
              all_goals
                have hV := (show Below wr.heap.size wr _ from (by assumption : Below wr.heap.size wr _ ∧ _).1)
                clear l1 hfld
                refine k_at (K := _) ?_
                intro V hVe
                rw [← hVe] at hV
                have HV := Lib.hid hV
                have hob := HOBV.out _ hV
                unfold stepCells at hob
                obtain ⟨⟨z0, -⟩, -⟩ := ten_cells hob
                have HOB := Lib.hid hob
                clear hVe hob
                obtain ⟨bad, hbd⟩ : ∃ b : Bool, b = (decide (q < mk) || (decide (mk < q) && decide (K ≠ 1))) := ⟨_, rfl⟩
                have HBD := Lib.hid hbd
                clear hbd
                go_upto_region 25 with fail
                go_cut [90] (fun s90 wx => s90 = .bool bad ∧ wx = V)
                case first =>
                  
                  by_cases h1 : q < mk
                  · go_wp2_with fail
                    go_meet
                    case rel => exact ⟨by rw [HBD.out, decide_eq_true h1]; rfl, rfl⟩
                  · by_cases h2 : mk < q
                    · by_cases hK1 : K = 1
                      · have hk1 : (K != 1) = false := by rw [bne_eq_false_iff_eq]; exact hK1
                        go_wp2_with fail
                        go_meet
                        case rel => exact ⟨by rw [HBD.out, decide_eq_false h1, hK1]; simp, rfl⟩
                      · have hk1 : (K != 1) = true := by rw [bne_iff_ne]; exact hK1
                        go_wp2_with fail
                        go_meet
                        case rel => exact ⟨by rw [HBD.out, decide_eq_true h2, decide_eq_true hK1]; simp, rfl⟩
                    · go_wp2_with fail
                      go_meet
                      case rel => exact ⟨by rw [HBD.out, decide_eq_false h1, decide_eq_false h2]; simp, rfl⟩
                case rest =>
                  obtain ⟨rfl, hVe⟩ := hcut
                  have hVs := hVe.symm
                  clear hVe
                  subst hVs
                  cases hbad : bad with
                  | true =>
                    have HRES : Hid (Script.readOf s.data.toList = none) := by
                      show _ = _
                      rw [HCAND.out, HCN.out]
                      have hb := HBD.out
                      rw [hbad] at hb
                      by_cases h1 : q < mk
                      · rw [if_pos h1]
                      · rw [decide_eq_false h1] at hb
                        by_cases h2 : mk < q
                        · by_cases hK1 : K = 1
                          · rw [hK1] at hb; simp at hb
                          · rw [if_neg h1, if_neg hK1, if_pos h2]
                        · rw [decide_eq_false h2] at hb; simp at hb
                    have hab := HAV.out _ (HBV.out _ HV.out)
                    obtain ⟨⟨d0, d1, d2, d3, d4, d5, d6, d7, d8, d9⟩, f0, f1, f2, f3, f4, f5, f6, f7, f8, f9⟩ := ten_cells hab
                    clear hbad hab z0
                    
                    go_wp2_with fail
                    (try simp only [Exit.inBlock, Exit.then])
                    refine bodyPost_ret (by simp [results, Tryd.results21, go_sem, d0, d1, d2, d3, d4, d5, d6, d7, d8, d9]; try rfl) rfl ?_
                    refine ⟨?_, ?_⟩
                    · unfold ReadRes
                      rw [HRES.out]
                      exact ⟨0, ⟨#[]⟩, 0, 0, 0, 0, Script.emptyB, none, none, none, 0, 0, 0, rfl⟩
                    · exact exit_below (HBB.out _ (HBV.out _ HV.out))
                  | false =>
                    have hb := HBD.out
                    rw [hbad] at hb
                    have hmq : mk ≤ q := by
                      rcases Nat.lt_or_ge q mk with h | h
                      · rw [decide_eq_true h] at hb; simp at hb
                      · exact h
                    have HCM : Hid (candW (splitB s.data.toList) = (if K = 1 then (match bodyOf (L.drop mk) with | none => none | some b => some { kind := K, name := nm.data.toList, n := Script.pad (L.take mk), body := b })
                        else some { kind := K, name := nm.data.toList, n := Script.pad (L.take mk), body := emptyB })) := by
                      show _ = _
                      rw [HCN.out, if_neg (by omega)]
                      by_cases hK1 : K = 1
                      · rw [if_pos hK1, if_pos hK1]
                      · rw [if_neg hK1, if_neg hK1, if_neg]
                        intro h2
                        rw [decide_eq_true h2, decide_eq_true hK1] at hb
                        simp at hb
                    clear hb hbad HCN z0
                    have hm4 := HM4.out
                    obtain ⟨n0, n1, n2, n3, hpad, hspl⟩ := splice_step K nm [.int .i64 0, .slice none 0 0, .slice none 0 0, .slice none 0 0] L mk HM4.out (by have := HQL.out; omega)
                    have HPAD := Lib.hid hpad
                    have HSPL := Lib.hid hspl
                    have hsl4 := run_whole4 w1.heap.size
                    obtain ⟨A3, hA3, hA3i⟩ := head_ints a1 q c1 hle (by unfold maxLen; omega) mk hmq
                    have hin1 : Ints V a1 L := HHI.out V (fun k h1 h2 => HV.out.block k h2)
                    have HA3 := Lib.hid (hA3i V L HQL.out.symm hin1)
                    obtain ⟨B3, hB3, hB3i⟩ := tail_ints a1 q c1 hle (by unfold maxLen; omega) mk hmq
                    have HTL : Hid ((L.take mk).length = mk) := by show _ = _; rw [List.length_take]; have := HQL.out; omega
                    have HOB1 : Hid (V.drew.heap[w1.heap.size]? = some (.cells ([.int .i64 K, .string nm, .int .i64 0, .int .i64 0, .int .i64 0, .int .i64 0] ++ [.int .i64 0, .slice none 0 0, .slice none 0 0, .slice none 0 0] : List Value).toArray 51 (0, 0))) := HOB.out
                    have HB3I := Lib.hid hB3i
                    clear hpad hspl hA3i hin1 hB3i
                    go_wp2_with fail
                    go_region_law
                      (refine step_copy_at rfl _ _ 46 46 (by rfl) 3 Tryd.underlying46 infoIntSize (some ⟨w1.heap.size, 2, none⟩) A3 4 4 mk c1 (by rfl) (by rfl) w1.heap.size 2 _ 51 HOB1.out ((L.take mk).map intCell) (by rw [List.length_map, HTL.out]; exact (Nat.min_eq_left HM4.out).symm)
                         (fun hp => ⟨rfl, by
                           obtain ⟨bb, oo, rfl, hcc⟩ := HA3.out.at_ (by simpa using hp)
                           refine ⟨_, rfl, fun j v hj => ?_⟩
                           rw [List.getElem?_map] at hj
                           obtain ⟨y, hy, rfl⟩ := Option.map_eq_some_iff.1 hj
                           have hadd : (⟨bb, oo, none⟩ : Addr).add j = ⟨bb, oo + j, none⟩ := by unfold Addr.add; split <;> simp_all
                           rw [hadd]
                           exact hcc j y hy⟩)
                         (by rw [List.length_map, HTL.out]; simp; omega) (oneCell_ints _) ?_
                       intro w4 HG4 hg4)
                    have hb4 : Below w1.heap.size w1 w4 := (HBV.out _ HV.out).drew.grown hg4 (HBV.out _ HV.out).drew.size (fun k hk => by injection hk with hk; omega)
                    have HG4' : Hid (w4.heap[w1.heap.size]? = some (.cells #[.int .i64 K, .string nm, .int .i64 n0, .int .i64 n1, .int .i64 n2, .int .i64 n3, .int .i64 0, .slice none 0 0, .slice none 0 0, .slice none 0 0] 51 (0, 0))) := by
                      have h := HG4.out
                      rw [HSPL.out] at h
                      exact h
                    have hin4 : Ints w4 a1 L := HHI.out w4 (fun k h1 h2 => (hg4.block k (by show k < V.heap.size; have := HV.out.size; omega) (fun e => by injection e with e; have := HLW.out; omega)).trans (HV.out.block k h2))
                    have HTI := Lib.hid (HB3I.out w4 L HQL.out.symm hin4)
                    have HB4 := Lib.hid hb4
                    obtain ⟨⟨z0, -⟩, -⟩ := ten_cells HG4'.out
                    clear hb4 hin4 hg4 HG4 hA3 hsl4 HA3 HOB1 HB3I HOB HV hV HIN HHI HBL HB3 HOBV HBV HC0 b1 HBW
                    go_upto_if 100 with fail
                    go_cut [13] (fun _ wx => FinRel w1 (candW (splitB s.data.toList)) wx)
                    case first =>
                      
                      by_cases hK1 : K = 1
                      · have HCB := Lib.hid HCM.out
                        rw [if_pos hK1] at HCB
                        have HBDY := Lib.hid (body_any B3 (q - mk) (c1 - mk) (L.drop mk) w4 (by rw [List.length_drop, ← HQL.out]) (by omega) (by unfold maxLen; omega) HTI.out)
                        have hk1 : (K == 1) = true := by rw [beq_iff_eq]; exact hK1
                        clear HCM HTI
                        go_wp2_with fail
                        refine HBDY.out.mono ?_
                        rintro e w5 ⟨v5, rfl, hres, hb5⟩
                        have HB5 := Lib.hid (HB4.out.trans (hb5.mono HB4.out.size))
                        have hob5 := (hb5.block _ (Array.getElem?_eq_some_iff.1 HG4'.out).1).trans HG4'.out
                        have HLT4 : Hid (w1.heap.size < w4.heap.size) := (Array.getElem?_eq_some_iff.1 HG4'.out).1
                        have HS5 := Lib.hid hb5.size
                        clear z0 hb5 HBDY
                        unfold BodyRes at hres
                        cases hbo : Script.bodyOf (L.drop mk) with
                        | none =>
                          rw [hbo] at hres HCB
                          obtain rfl := hres
                          have HRES : Hid (Script.readOf s.data.toList = none) := by show _ = _; rw [HCAND.out, HCB.out]
                          have hab := HAV.out _ (HB5.out.alloc HB5.out.size (.cells #[.int .i64 0, .slice none 0 0, .slice none 0 0, .slice none 0 0] 48))
                          obtain ⟨⟨d0, d1, d2, d3, d4, d5, d6, d7, d8, d9⟩, f0, f1, f2, f3, f4, f5, f6, f7, f8, f9⟩ := ten_cells hab
                          clear hab hbo hob5
                          go_wp2_with fail
                          (try simp only [Exit.inBlock, Exit.then])
                          refine bodyPost_ret (by simp [results, Tryd.results21, go_sem, d0, d1, d2, d3, d4, d5, d6, d7, d8, d9]; try rfl) rfl ?_
                          refine ⟨?_, ?_⟩
                          · unfold ReadRes
                            rw [HRES.out]
                            exact ⟨0, ⟨#[]⟩, 0, 0, 0, 0, Script.emptyB, none, none, none, 0, 0, 0, rfl⟩
                          · exact exit_below (HBB.out _ (HB5.out.alloc HB5.out.size _))
                        | some b =>
                          rw [hbo] at hres HCB
                          obtain ⟨ta, pa, ka, tc, pc, kc, rfl, hbody⟩ := hres
                          have HBY := Lib.hid hbody
                          have HSB := Lib.hid (bodyOf_wf hbo)
                          have hal := (Below.refl w5.heap.size w5).alloc (Nat.le_refl _) (.cells #[.int .i64 b.sn, .slice ta b.tn tc, .slice pa b.pn pc, .slice ka b.k.length kc] 48)
                          have hob6 := (hal.block _ (Array.getElem?_eq_some_iff.1 hob5).1).trans hob5
                          obtain ⟨⟨-, -, -, -, -, -, z6, z7, z8, z9⟩, -, -, -, -, -, -, y6, y7, y8, y9⟩ := ten_cells hob6
                          have HO6 := Lib.hid hob6
                          have HB6 := Lib.hid (HB5.out.trans (hal.mono HB5.out.size))
                          unfold bodyV
                          clear hbody hal hob5 hob6 hbo
                          go_wp2_with fail
                          go_meet
                          case rel =>
                            unfold FinRel
                            refine ⟨_, _, HCB.out, (Lib.heap_setCell_same (Lib.heap_setCell_same (Lib.heap_setCell_same (Lib.heap_setCell_same HO6.out _) _) _) _).trans rfl, fun U hU => ?_, ((((HB6.out.setCell (p := ⟨w1.heap.size, 6, none⟩) (Nat.le_refl _) _).setCell (p := ⟨w1.heap.size, 7, none⟩) (Nat.le_refl _) _).setCell (p := ⟨w1.heap.size, 8, none⟩) (Nat.le_refl _) _).setCell (p := ⟨w1.heap.size, 9, none⟩) (Nat.le_refl _) _)⟩
                            have hUU : ∀ k, w4.heap.size ≤ k → k < w5.heap.size → U.heap[k]? = w5.heap[k]? := by
                              intro k h1 h2
                              have h4 := HLT4.out
                              have hne : k ≠ w1.heap.size := by omega
                              rw [hU k (by omega) (by rw [World.size_setCell, World.size_setCell, World.size_setCell, World.size_setCell, World.size_alloc]; omega)]
                              rw [Below.heap_setCell _ _ _ _ hne, Below.heap_setCell _ _ _ _ hne, Below.heap_setCell _ _ _ _ hne, Below.heap_setCell _ _ _ _ hne]
                              exact heap_alloc_old _ _ h2
                            obtain ⟨hy1, hy2, hy3⟩ := HBY.out U hUU
                            have h4 := HLT4.out
                            exact ⟨⟨nm, n0, n1, n2, n3, ta, pa, ka, tc, pc, kc, rfl, HPAD.out, rfl, hy1, by have := HSB.out; show b.pn ≤ _; omega, by have := HSB.out; show b.tn ≤ _; omega, by have := HSB.out; show b.k.length ≤ _; omega, by omega⟩,
                              pa, ka, pc, kc, rfl, rfl, hy2.mono (by omega), hy3.mono (by omega)⟩
                      · have hk1 : (K == 1) = false := by rw [beq_eq_false_iff_ne]; exact hK1
                        go_wp2_with fail
                        go_meet
                        case rel =>
                          unfold FinRel
                          refine ⟨_, _, by rw [HCM.out, if_neg hK1], HG4'.out, fun U hU => ?_, HB4.out⟩
                          exact ⟨⟨nm, n0, n1, n2, n3, none, none, none, 0, 0, 0, rfl, HPAD.out, rfl, ⟨ints_nil _ _, ints_nil _ _, ints_nil _ _, rfl, rfl⟩, by show (0 : Nat) ≤ 100000; decide, by show (0 : Nat) ≤ 100000; decide, by show (0 : Nat) ≤ 1000000; decide, by omega⟩, none, none, 0, 0, rfl, rfl, fun h => absurd h (Nat.lt_irrefl 0), fun h => absurd h (Nat.lt_irrefl 0)⟩
                    case rest =>
                      clear HG4' HPAD HSPL HTL HTI hB3 z0 HCM HB4
                      unfold FinRel at hcut
                      obtain ⟨x, cs, hcx, hxh, hxs, hxb⟩ := hcut
                      obtain ⟨sl, rfl⟩ : ∃ l : List UInt8, s = ⟨⟨l⟩⟩ := ⟨s.data.toList, rfl⟩
                      have HXS := Lib.hid hxs
                      have HXH := Lib.hid hxh
                      have HXB := Lib.hid hxb
                      have HRES : Hid (Script.readOf sl = if Script.right x = true ∧ Script.line x = sl then some x else none) := by show _ = _; have h := HCAND.out; rw [hcx] at h; exact h
                      have HWC := Lib.hid (HBB.out _ HXB.out)
                      have HLT : Hid (w.heap.size < w1.heap.size) := by show _ < _; have := HS1.out; omega
                      have HAVC := Lib.hid (fun (V : World) (hV : Below wc.heap.size wc V) => HAV.out V (HXB.out.trans (hV.mono HXB.out.size)))
                      have HRDV := Lib.hid (fun (V : World) (hV : Below wc.heap.size wc V) => HRD.out V (HBB.out V (HXB.out.trans (hV.mono HXB.out.size))))
                      clear hcx hxh hxs hxb HCAND
                      go_wp2_with fail
                      rename_i hret
                      refine read_end w w1 wc sl x cs (Lib.hid fun U hU => (HXS.out U hU).1) HXH HAVC HWC HLT HRDV ?_
                      intro b v113 v114 v115 v116 v117 v118 v119 v120 v121 w' hend
                      obtain ⟨hb, hsr, hhp⟩ := hend
                      have HSR := Lib.hid hsr
                      have HB := Lib.hid hb
                      obtain ⟨nm5, m0, m1, m2, m3, ta, pa, ka, tc, pc, kc, hx1, hx2, rfl, hx3⟩ := (HXS.out w' hsr.2.1).1
                      have HST : Hid (∀ V : World, (∀ k, w.heap.size ≤ k → k < w'.heap.size → V.heap[k]? = w'.heap[k]?) → StepF w.heap.size V x (stepCells x.kind nm5 m0 m1 m2 m3 x.body ta pa ka tc pc kc)) := fun V hV => (HXS.out V (fun k h1 h2 => (hV k (by have := HLT.out; omega) (Nat.lt_of_lt_of_le h2 HSR.out.2.2)).trans (HSR.out.2.1 k h1 h2))).mono (Nat.le_of_lt HLT.out)
                      unfold stepCells at hhp HST
                      obtain ⟨⟨d0, d1, d2, d3, d4, d5, d6, d7, d8, d9⟩, -⟩ := ten_cells hhp
                      clear hb hsr hhp hx1 hx2 hx3
                      refine hret _ _ (wp_ret ?_)
                      refine bodyPost_ret (by simp [results, Tryd.results21, go_sem, d0, d1, d2, d3, d4, d5, d6, d7, d8, d9]; try rfl) rfl ?_
                      refine ⟨?_, HSR.out.1⟩
                      unfold ReadRes
                      rw [show Script.readOf (ByteArray.mk ⟨sl⟩).data.toList = _ from HRES.out]
                      by_cases h : Script.right x = true ∧ Script.line x = sl
                      · rw [if_pos h]
                        refine ⟨_, ?_, HST.out⟩
                        rw [HB.out, h.1, decide_eq_true h.2]; rfl
                      · rw [if_neg h]
                        refine ⟨x.kind, nm5, m0, m1, m2, m3, x.body, ta, pa, ka, tc, pc, kc, ?_⟩
                        rw [HB.out]
                        have hf : (Script.right x && decide (Script.line x = sl)) = false := by
                          cases h1 : Script.right x with
                          | false => rfl
                          | true =>
                            have : ¬ Script.line x = sl := fun h2 => h ⟨h1, h2⟩
                            rw [decide_eq_false this]; rfl
                        rw [hf]; rfl

end Go.Proofs.YtjcffbhgjmaicaaDoor
