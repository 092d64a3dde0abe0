/-
  Layer 55 (script): two rows that read as one list are the same (the document's Same).
-/
import Derived.Test.YtjcffbhgjmaicaaDoorScrRBody
import Derived.Laws.StructEq
namespace Go.Proofs.YtjcffbhgjmaicaaDoor
open Go.RowKit
open Script

set_option maxRecDepth 100000 in
theorem arr4 (d0 : Nat) (a b c d : Int) (V : World) : (Op.equalIn (d0 + 2) 49 (.agg #[.int .i64 a, .int .i64 b, .int .i64 c, .int .i64 d]) (.agg #[.int .i64 a, .int .i64 b, .int .i64 c, .int .i64 d])).run Tryd.prog V = .ok true V := by
  obtain ⟨i0, hi0, hz0, hz1, hz2⟩ := info_parts infoInt
  have he : ∀ (x : Int) (W : World), (Op.equalIn (d0 + 1) 3 (.int .i64 x) (.int .i64 x)).run Tryd.prog W = .ok true W := fun x W => by
    rw [run_equalIn_int W d0 3 .i64 .i64 x x Tryd.underlying3]; simp
  rw [Op.equalIn]
  simp only [Sem.run_bind, run_underlying Tryd.underlying49, Result.andThen]
  simp [sizeOf, typeInfo, hi0, hz1, go_sem, List.range', he]

theorem neq4 (a b c d : Int) (V : World) : (binOp .neq 49 (.agg #[.int .i64 a, .int .i64 b, .int .i64 c, .int .i64 d]) (.agg #[.int .i64 a, .int .i64 b, .int .i64 c, .int .i64 d])).run Tryd.prog V = .ok (.bool false) V := by
  rw [run_neq_struct, arr4 9998]
  rfl

/-- The two rows of numbers agree. -/
def SameNums (wc : World) (l : List Int) (s6 s7 : Value) (wr : World) : Prop :=
  ∃ v6 v7, s6 = v6 ∧ s7 = v7 ∧ (∃ a c, v6 = .slice a l.length c ∧ l.length ≤ c ∧ Ints wr a l) ∧ (∃ a c, v7 = .slice a l.length c ∧ l.length ≤ c ∧ Ints wr a l) ∧ Below wc.heap.size wc wr

set_option maxRecDepth 100000 in
set_option maxHeartbeats 4000000 in
theorem same_any (a b : Option Addr) (n ca cb : Nat) (l : List Script.Step) (w : World) (hn : l.length = n) (hn2 : n ≤ 1000000) (ha : StepsAt w a l) (hb : StepsAt w b l) :
    Calls Tryd.prog 14 #[.slice a n ca, .slice b n cb] w fun e w' => e = .returned (.bool true) ∧ Below w.heap.size w w' := by
  have HA := Lib.hid ha
  have HB := Lib.hid hb
  have HN := Lib.hid hn
  clear ha hb hn
  go_enter Tryd.func14, Tryd.ntmps14
  go_wp2_with fail
  go_loopw [5] (fun i wr => ∃ j : Nat, j ≤ n ∧ i = .int .i64 j ∧ Below w.heap.size w wr) (fun i _ => n - (intOf i).toNat)
  case atStart => exact ⟨0, by omega, rfl, Below.refl _ _⟩
  case round =>
    obtain ⟨j, hj, rfl, hbl⟩ := hrel
    have HBL := Lib.hid hbl
    clear hbl
    by_cases hjn : j < n
    · have HJN := Lib.hid hjn
      obtain ⟨u, hu⟩ : ∃ u, l[j]? = some u := ⟨l[j]'(by rw [HN.out]; exact hjn), List.getElem?_eq_getElem _⟩
      obtain ⟨g, o, cs, rfl, hv, hc⟩ := HA.out j u hu
      obtain ⟨g', o', cs', rfl, hv', hc'⟩ := HB.out j u hu
      obtain ⟨nm, n0, n1, n2, n3, ta, pa, ka, tc, pc, kc, e1, e2, rfl, e4, b1, b2, b3, -⟩ := hv
      obtain ⟨nm', m0, m1, m2, m3, ta', pa', ka', tc', pc', kc', f1, f2, rfl, f4, -⟩ := hv'
      have hnm : nm' = nm := by
        have := e1.symm.trans f1
        obtain ⟨⟨x⟩⟩ := nm
        obtain ⟨⟨y⟩⟩ := nm'
        simp at this
        rw [this]
      have hns := e2.symm.trans f2
      simp only [List.cons.injEq, and_true] at hns
      obtain ⟨rfl, rfl, rfl, rfl⟩ := hns
      subst hnm
      unfold stepCells at hc hc'
      have HU := Lib.hid hu
      have HRA := Lib.hid (fun (V : World) (hV : Below w.heap.size w V) => rbody_any u.body ta pa ka tc pc kc V (e4.below hV) b1 b2 b3)
      have HRB := Lib.hid (fun (V : World) (hV : Below w.heap.size w V) => rbody_any u.body ta' pa' ka' tc' pc' kc' V (f4.below hV) b1 b2 b3)
      have HCA := Lib.hid (fun (V : World) (hV : Below w.heap.size w V) i y hy => (hV.cell (p := ⟨g, o + (j * 10 + i), none⟩) (lt_of_cell (hc i y hy))).trans (hc i y hy))
      have HCB := Lib.hid (fun (V : World) (hV : Below w.heap.size w V) i y hy => (hV.cell (p := ⟨g', o' + (j * 10 + i), none⟩) (lt_of_cell (hc' i y hy))).trans (hc' i y hy))
      have HS : Hid (∀ V : World, Below w.heap.size w V → (V.cell? ⟨g, o + j * 10 + 6, none⟩ = some (.int .i64 u.body.sn) ∧ V.cell? ⟨g, o + j * 10 + 6 + 1, none⟩ = some (.slice ta u.body.tn tc) ∧ V.cell? ⟨g, o + j * 10 + 6 + 2, none⟩ = some (.slice pa u.body.pn pc) ∧ V.cell? ⟨g, o + j * 10 + 6 + 3, none⟩ = some (.slice ka u.body.k.length kc) ∧ V.cell? ⟨g', o' + j * 10 + 6, none⟩ = some (.int .i64 u.body.sn) ∧ V.cell? ⟨g', o' + j * 10 + 6 + 1, none⟩ = some (.slice ta' u.body.tn tc') ∧ V.cell? ⟨g', o' + j * 10 + 6 + 2, none⟩ = some (.slice pa' u.body.pn pc') ∧ V.cell? ⟨g', o' + j * 10 + 6 + 3, none⟩ = some (.slice ka' u.body.k.length kc'))) := by
        intro V hV
        exact ⟨HCA.out V hV 6 _ rfl, HCA.out V hV 7 _ rfl, HCA.out V hV 8 _ rfl, HCA.out V hV 9 _ rfl, HCB.out V hV 6 _ rfl, HCB.out V hV 7 _ rfl, HCB.out V hV 8 _ rfl, HCB.out V hV 9 _ rfl⟩
      have hnl : (Script.numbers u.body).length ≤ 2000000 := by
        unfold Script.numbers
        simp only [List.length_cons, List.length_append]
        have := e4.tl; have := e4.pl; omega
      have HNL := Lib.hid hnl
      have HBD := Lib.hid HBL.out.drew
      clear hnl hc hc' hu e1 f1 e2 f2 e4 f4
      go_wp2_with fail
      go_region_held_law (fun V => (V.cell? ⟨g, o + j * 10 + 6, none⟩ = some (.int .i64 u.body.sn) ∧ V.cell? ⟨g, o + j * 10 + 6 + 1, none⟩ = some (.slice ta u.body.tn tc) ∧ V.cell? ⟨g, o + j * 10 + 6 + 2, none⟩ = some (.slice pa u.body.pn pc) ∧ V.cell? ⟨g, o + j * 10 + 6 + 3, none⟩ = some (.slice ka u.body.k.length kc) ∧ V.cell? ⟨g', o' + j * 10 + 6, none⟩ = some (.int .i64 u.body.sn) ∧ V.cell? ⟨g', o' + j * 10 + 6 + 1, none⟩ = some (.slice ta' u.body.tn tc') ∧ V.cell? ⟨g', o' + j * 10 + 6 + 2, none⟩ = some (.slice pa' u.body.pn pc') ∧ V.cell? ⟨g', o' + j * 10 + 6 + 3, none⟩ = some (.slice ka' u.body.k.length kc')))
        (first | (with_reducible exact HS.out _ HBD.out) | (with_reducible exact HS.out _ HBA.out) | (with_reducible exact HS.out _ HBB.out) | fail)
        (first
          | (go_at_call 23; with_reducible refine (HRA.out _ (by first | exact HBB.out | exact HBD.out)).mono ?_
             rintro e vA ⟨xA, rfl, hoA, hbA⟩
             have HBA := Lib.hid (show Below w.heap.size w vA by first | exact HBB.out.trans (hbA.mono HBB.out.size) | exact HBD.out.trans (hbA.mono HBD.out.size))
             have HOA := Lib.hid hoA
             have HAA := Lib.hid hbA
             clear hoA hbA)
          | (go_at_call 23; with_reducible refine (HRB.out _ (by first | exact HBA.out | exact HBD.out)).mono ?_
             rintro e vB ⟨xB, rfl, hoB, hbB⟩
             have HBB := Lib.hid (show Below w.heap.size w vB by first | exact HBA.out.trans (hbB.mono HBA.out.size) | exact HBD.out.trans (hbB.mono HBD.out.size))
             have HOB := Lib.hid hoB
             have HAB := Lib.hid hbB
             clear hoB hbB)
          | fail)
      obtain ⟨aA, cA, rfl, hA1, hA2, tA⟩ := (HOA.out.later HAB.out).ints
      obtain ⟨aB, cB, rfl, hB1, hB2, tB⟩ := HOB.out.ints
      have HTA := Lib.hid tA
      have HTB := Lib.hid tB
      have HQ : Hid (∃ q, q = (Script.numbers u.body).length) := ⟨_, rfl⟩
      obtain ⟨q, hq⟩ := HQ.out
      have HQL := Lib.hid hq
      have HQM : Hid (q ≤ 2000000) := by show _ ≤ _; rw [hq]; exact HNL.out
      rw [← hq] at hA1 hB1 ⊢
      generalize Script.numbers u.body = L at *
      clear tA tB hq HQ HOA HOB
      have xA0 := (show vB.cell? ⟨g, o + j * 10, none⟩ = some (.int .i64 u.kind) from HCA.out vB HBB.out 0 _ rfl)
      have xA1 := (show vB.cell? ⟨g, o + j * 10 + 1, none⟩ = some (.string nm') from HCA.out vB HBB.out 1 _ rfl)
      have xA2 := (show vB.cell? ⟨g, o + j * 10 + 2, none⟩ = some (.int .i64 n0) from HCA.out vB HBB.out 2 _ rfl)
      have xA3 := (show vB.cell? ⟨g, o + j * 10 + 2 + 1, none⟩ = some (.int .i64 n1) from HCA.out vB HBB.out 3 _ rfl)
      have xA4 := (show vB.cell? ⟨g, o + j * 10 + 2 + 2, none⟩ = some (.int .i64 n2) from HCA.out vB HBB.out 4 _ rfl)
      have xA5 := (show vB.cell? ⟨g, o + j * 10 + 2 + 3, none⟩ = some (.int .i64 n3) from HCA.out vB HBB.out 5 _ rfl)
      have xA8 := (show vB.cell? ⟨g, o + j * 10 + 6 + 2, none⟩ = some (.slice pa u.body.pn pc) from HCA.out vB HBB.out 8 _ rfl)
      have xB0 := (show vB.cell? ⟨g', o' + j * 10, none⟩ = some (.int .i64 u.kind) from HCB.out vB HBB.out 0 _ rfl)
      have xB1 := (show vB.cell? ⟨g', o' + j * 10 + 1, none⟩ = some (.string nm') from HCB.out vB HBB.out 1 _ rfl)
      have xB2 := (show vB.cell? ⟨g', o' + j * 10 + 2, none⟩ = some (.int .i64 n0) from HCB.out vB HBB.out 2 _ rfl)
      have xB3 := (show vB.cell? ⟨g', o' + j * 10 + 2 + 1, none⟩ = some (.int .i64 n1) from HCB.out vB HBB.out 3 _ rfl)
      have xB4 := (show vB.cell? ⟨g', o' + j * 10 + 2 + 2, none⟩ = some (.int .i64 n2) from HCB.out vB HBB.out 4 _ rfl)
      have xB5 := (show vB.cell? ⟨g', o' + j * 10 + 2 + 3, none⟩ = some (.int .i64 n3) from HCB.out vB HBB.out 5 _ rfl)
      have xB8 := (show vB.cell? ⟨g', o' + j * 10 + 6 + 2, none⟩ = some (.slice pa' u.body.pn pc') from HCB.out vB HBB.out 8 _ rfl)
      have hn4 := neq4 n0 n1 n2 n3
      go_wp2_with fail
      go_quiet (fail)
      refine k_at (K := _) ?_
      intro V hV
      have hbv : Below vB.heap.size vB V := by rw [hV]; exact below_drewL (Below.refl _ _) _
      have HBV := Lib.hid (HBB.out.trans (hbv.mono HBB.out.size))
      have HTA2 := Lib.hid (HTA.out.below hbv)
      have HTB2 := Lib.hid (HTB.out.below hbv)
      clear hbv hV xA0 xA1 xA2 xA3 xA4 xA5 xA8 xB0 xB1 xB2 xB3 xB4 xB5 xB8 HTA HTB
      clear hn4
      go_wp2_with fail
      go_loopw [8] (fun i wr => ∃ k : Nat, k ≤ q ∧ i = .int .i64 k ∧ Below V.heap.size V wr) (fun i _ => q - (intOf i).toNat)
      case atStart => exact ⟨0, by omega, rfl, Below.refl _ _⟩
      case round =>
        obtain ⟨k, hk, rfl, hbk⟩ := hrel
        have HBK := Lib.hid hbk
        clear hbk
        have hqm := HQM.out
        by_cases hkq : k < q
        · obtain ⟨x, hx⟩ : ∃ x, L[k]? = some x := ⟨L[k]'(by rw [← HQL.out]; exact hkq), List.getElem?_eq_getElem _⟩
          obtain ⟨ga, oa, rfl, hca⟩ := HTA2.out.at_ (by rw [← HQL.out]; omega)
          obtain ⟨gb, ob, rfl, hcb⟩ := HTB2.out.at_ (by rw [← HQL.out]; omega)
          have la := (HBK.out.cell (lt_of_cell (hca k x hx))).trans (hca k x hx)
          have lb := (HBK.out.cell (lt_of_cell (hcb k x hx))).trans (hcb k x hx)
          clear hca hcb hx
          go_wp2_with fail
          go_quiet (fail)
          refine k_at (K := _) ?_
          intro V2 hV2
          have HB2 := Lib.hid (show Below V.heap.size V V2 by rw [hV2]; exact below_drewL HBK.out _)
          clear hV2 la lb
          go_wp2_with fail
          go_roundw
          case rel => exact ⟨k + 1, by omega, by go_num, HB2.out⟩
          case measure => simp [intOf]; omega
        · obtain rfl : q = k := by omega
          go_wp2_with fail
          go_roundw
          case rel => exact ⟨j + 1, by have := HJN.out; omega, by go_num, HBV.out.trans (HBK.out.mono HBV.out.size)⟩
          case measure => have := HJN.out; simp [intOf]; omega
    · obtain rfl : n = j := by omega
      go_wp2_with fail
      go_ret
      exact ⟨rfl, HBL.out⟩

end Go.Proofs.YtjcffbhgjmaicaaDoor
