/-
  Layer 55 (script): a body's numbers, by the document's answer.
-/
import Derived.Test.YtjcffbhgjmaicaaDoorScrGreat
namespace Go.Proofs.YtjcffbhgjmaicaaDoor
open Go.RowKit
open Script

/-- 'append(v, x..)' of ints, as one step of a region that draws its order. -/
theorem step_appendI {w : World} {ops : Array Oper} {o : Oper} {a : Act} {K : Act → World → Prop} {Q : Exit → Act → World → Prop} {E : Prop} (hw : Region.wanted o (yielded ops a.tmps) = true) (s x : Operand)
    (ho : o.op = .call { callee := .builtin .append, args := #[s, x], argTypes := #[46, 46] })
    {base : Nat} {v : Value} {l : List Int} (hs : a.eval s = v) (hown : OwnI w base v l)
    {A : Option Addr} {n c : Nat} {m : List Int} (hx : a.eval x = .slice A n c) (hn : n = m.length) (ht : Ints w A m)
    (hlen : l.length + m.length ≤ 1000000000) (hbase : base ≤ w.heap.size)
    (h : ∀ v' w', OwnI w' base v' (l ++ m) → w.grownBy w' v.ownBlock → K (a.put o.dst v') w') : if Region.wanted o (yielded ops a.tmps) = true then Oper.wp Tryd.prog o a w K Q else E := by
  rw [if_pos hw]
  obtain ⟨i0, hi0, hz0, hz1, hz2⟩ := info_parts infoInt
  subst hn
  refine wp_append_row w s x _ ho base 3 i0 _ 1 8 Tryd.underlying46 hi0 hz0 hz1 hz2 rfl (by omega) v l.length (l.map intCell) hs hown A m.length c (m.map intCell) hx (by simp) ht (oneCell_ints m) (by simp only [maxLen]; omega) (by omega) hbase ?_
  intro v' w' h1 h2 _
  refine h v' w' ?_ h2
  unfold OwnI
  rw [List.map_append, List.length_append]
  exact h1

set_option maxRecDepth 100000 in
set_option maxHeartbeats 4000000 in
theorem rbody_any (b : Script.Body) (ta pa ka : Option Addr) (tc pc kc : Nat) (w : World) (h : BodyAt w b ta pa ka) (hp : b.pn ≤ 100000) (ht : b.tn ≤ 100000) (hk : b.k.length ≤ 1000000) :
    Calls Tryd.prog 23 #[.agg #[.int .i64 b.sn, .slice ta b.tn tc, .slice pa b.pn pc, .slice ka b.k.length kc]] w fun e w' => ∃ v, e = .returned v ∧ OwnI w' w.heap.size v (Script.numbers b) ∧ Below w.heap.size w w' := by
  have HTI := Lib.hid h.t
  have HPI := Lib.hid h.p
  have HKI := Lib.hid h.k
  have HTL := Lib.hid h.tl
  have HPL := Lib.hid h.pl
  have HNN : Hid (Script.numbers b = [b.sn, (b.tn : Int), (b.k.length : Int)] ++ b.p ++ b.t ++ b.k) := by show _ = _; unfold Script.numbers; simp
  generalize Script.numbers b = NB at *
  obtain ⟨sn, pn, p, tn, t, k⟩ := b
  simp only at HTI HPI HKI HTL HPL HNN hp ht hk ⊢
  clear h
  generalize hkl : k.length = kl at *
  have HKL := Lib.hid hkl
  clear hkl
  go_enter Tryd.func23, Tryd.ntmps23
  go_wp2_with fail
  have hw0 := (Below.refl w.heap.size w).alloc (Nat.le_refl _) (.cells #[.int .i64 sn, .slice ta tn tc, .slice pa pn pc, .slice ka kl kc] 48)
  have HW0 := Lib.hid hw0
  have hsz : (w.alloc (.cells #[.int .i64 sn, .slice ta tn tc, .slice pa pn pc, .slice ka kl kc] 48)).heap.size = w.heap.size + 1 := by simp
  have HSZ := Lib.hid hsz
  have HBX : Hid (∀ j u, #[Value.int .i64 sn, .slice ta tn tc, .slice pa pn pc, .slice ka kl kc][j]? = some u → (w.alloc (.cells #[.int .i64 sn, .slice ta tn tc, .slice pa pn pc, .slice ka kl kc] 48)).cell? ⟨w.heap.size, j, none⟩ = some u) := fun j u hj => by rw [World.cell?_alloc_new]; exact hj
  clear hw0 hsz
  generalize w.alloc (.cells #[.int .i64 sn, .slice ta tn tc, .slice pa pn pc, .slice ka kl kc] 48) = W0 at *
  rw [← HSZ.out]
  have hl0 : OwnI (W0.alloc (.cells #[.int .i64 sn, .int .i64 (tn : Int), .int .i64 (kl : Int)] 3)) W0.heap.size (.slice (some ⟨W0.heap.size, 0, none⟩) 3 3) [sn, (tn : Int), (kl : Int)] :=
    World.ownsRow_lit (e := 3) (size := 1) W0 #[.int .i64 sn, .int .i64 (tn : Int), .int .i64 (kl : Int)] 3 (Nat.le_refl _) (by decide) (by simp)
  have hb0 := (Below.refl W0.heap.size W0).alloc (Nat.le_refl _) (.cells #[.int .i64 sn, .int .i64 (tn : Int), .int .i64 (kl : Int)] 3)
  obtain ⟨H0, hH0⟩ : ∃ H0, H0 = [sn, (tn : Int), (kl : Int)] := ⟨_, rfl⟩
  have HH0 := Lib.hid hH0
  have hlen0 : H0.length = 3 := by rw [hH0]; rfl
  rw [← hH0] at hl0
  have HL0 := Lib.hid hlen0
  have HL := Lib.hid hl0
  have HB0 := Lib.hid hb0
  clear hH0 hl0 hb0 hlen0
  go_loopw [3, 4] (fun x i wr => ∃ j : Nat, j ≤ pn ∧ i = .int .i64 j ∧ OwnI wr W0.heap.size x (H0 ++ p.take (3 * j)) ∧ Below W0.heap.size W0 wr) (fun _ i _ => pn - (intOf i).toNat)
  case atStart => exact ⟨0, by omega, rfl, by simpa using HL.out, HB0.out⟩
  case round =>
      clear HL HB0
      obtain ⟨j, hj, rfl, ho, hb⟩ := hrel
      have HO := Lib.hid ho
      have HB := Lib.hid hb
      have hpl := HPL.out
      clear ho hb
      by_cases hjn : j < pn
      · obtain ⟨x, hx⟩ : ∃ x, p[3 * j]? = some x := ⟨p[3 * j]'(by omega), List.getElem?_eq_getElem _⟩
        obtain ⟨y, hy⟩ : ∃ y, p[3 * j + 1]? = some y := ⟨p[3 * j + 1]'(by omega), List.getElem?_eq_getElem _⟩
        obtain ⟨z, hz⟩ : ∃ z, p[3 * j + 2]? = some z := ⟨p[3 * j + 2]'(by omega), List.getElem?_eq_getElem _⟩
        obtain ⟨bp, op, rfl, hc⟩ := HPI.out.at_ (by omega)
        have c0 := hc (3 * j) x hx
        have c1 := hc (3 * j + 1) y hy
        have c2 := hc (3 * j + 2) z hz
        have HS : Hid (∀ V : World, Below W0.heap.size W0 V → (V.cell? ⟨w.heap.size, 2, none⟩ = some (.slice (some ⟨bp, op, none⟩) pn pc) ∧ V.cell? ⟨bp, op + j * 3, none⟩ = some (.int .i64 x) ∧ V.cell? ⟨bp, op + j * 3 + 1, none⟩ = some (.int .i64 y) ∧ V.cell? ⟨bp, op + j * 3 + 2, none⟩ = some (.int .i64 z))) := by
          intro V hV
          have hbw := HW0.out.trans (hV.mono HW0.out.size)
          have g0 := (hbw.cell (p := ⟨bp, op + 3 * j, none⟩) (lt_of_cell c0)).trans c0
          have g1 := (hbw.cell (p := ⟨bp, op + (3 * j + 1), none⟩) (lt_of_cell c1)).trans c1
          have g2 := (hbw.cell (p := ⟨bp, op + (3 * j + 2), none⟩) (lt_of_cell c2)).trans c2
          rw [Nat.mul_comm 3 j] at g0 g1 g2
          rw [← Nat.add_assoc] at g1 g2
          exact ⟨(hV.cell (p := ⟨w.heap.size, 2, none⟩) (lt_of_cell (HBX.out 2 _ rfl))).trans (HBX.out 2 _ rfl), g0, g1, g2⟩
        have HT3 := Lib.hid (take3 hx hy hz)
        have hbx := (HS.out _ HB.out).1
        have HBD := Lib.hid HB.out.drew
        have HBA := Lib.hid (HB.out.alloc HB.out.size (.cells #[.int .i64 x, .int .i64 y, .int .i64 z] 3)).drew
        have HOA := Lib.hid (HO.out.later ((Below.refl wr.heap.size wr).alloc (Nat.le_refl _) (.cells #[.int .i64 x, .int .i64 y, .int .i64 z] 3)).drew)
        have HIN : Hid (Ints (wr.alloc (.cells #[.int .i64 x, .int .i64 y, .int .i64 z] 3)).drew (some ⟨wr.heap.size, 0, none⟩) [x, y, z]) := ints_new3 wr _ x y z
        have HLL : Hid ((H0 ++ p.take (3 * j)).length + [x, y, z].length ≤ 1000000000) := by show _ ≤ _; have := HL0.out; simp only [List.length_append, List.length_take, List.length_cons, List.length_nil]; omega
        clear hc c0 c1 c2 hx hy hz hpl
        go_wp2_with fail
        go_region_held_law (fun V => V.cell? ⟨w.heap.size, 2, none⟩ = some (.slice (some ⟨bp, op, none⟩) pn pc) ∧ V.cell? ⟨bp, op + j * 3, none⟩ = some (.int .i64 x) ∧ V.cell? ⟨bp, op + j * 3 + 1, none⟩ = some (.int .i64 y) ∧ V.cell? ⟨bp, op + j * 3 + 2, none⟩ = some (.int .i64 z))
          (first | (with_reducible exact HS.out _ HBD.out) | (with_reducible exact HS.out _ HBA.out) | (with_reducible exact HS.out _ HB6.out) | fail)
          ((refine step_appendI (m := [x, y, z]) (by rfl) _ _ (by rfl) (by rfl) HOA.out (by rfl) (by rfl) HIN.out HLL.out HBA.out.size ?_
            intro v6 w6 ho6 hg6
            have HB6 := Lib.hid (HBA.out.grown hg6 HBA.out.size (fun k hk => (HOA.out.lt k hk).1))
            have HO6 := Lib.hid ho6
            clear ho6))
        all_goals
          go_wp2_with fail
          go_roundw
          case rel => exact ⟨j + 1, by omega, by go_num, by rw [HT3.out, ← List.append_assoc]; exact HO6.out, HB6.out⟩
          case measure => simp [intOf]; omega
      · obtain rfl : pn = j := by omega
        have hb1 := (HB.out.cell (p := ⟨w.heap.size, 2, none⟩) (lt_of_cell (HBX.out 2 _ rfl))).trans (HBX.out 2 _ rfl)
        have hb2 := (HB.out.cell (p := ⟨w.heap.size, 1, none⟩) (lt_of_cell (HBX.out 1 _ rfl))).trans (HBX.out 1 _ rfl)
        have ho := HO.out
        rw [List.take_of_length_le (by omega)] at ho
        obtain ⟨H1, hH1⟩ : ∃ H1, H1 = H0 ++ p := ⟨_, rfl⟩
        have hl1 : H1.length = 3 + 3 * pn := by rw [hH1, List.length_append, HL0.out, hpl]
        rw [← hH1] at ho
        have HH1 := Lib.hid hH1
        have HL1 := Lib.hid hl1
        have HO1 := Lib.hid ho
        have HBW := Lib.hid HB.out
        clear hH1 hl1 ho hpl HO HB
        go_wp2_with fail
        go_loopw [3, 5] (fun x i wr => ∃ m : Nat, m ≤ tn ∧ i = .int .i64 m ∧ OwnI wr W0.heap.size x (H1 ++ t.take (3 * m)) ∧ Below W0.heap.size W0 wr) (fun _ i _ => tn - (intOf i).toNat)
        case atStart => exact ⟨0, by omega, rfl, by simpa using HO1.out, HBW.out⟩
        case round =>
          clear HO1 HBW hb1 hb2
          obtain ⟨j, hj, rfl, ho, hb⟩ := hrel
          have HO := Lib.hid ho
          have HB := Lib.hid hb
          have hpl := HTL.out
          clear ho hb
          by_cases hjn : j < tn
          · obtain ⟨x, hx⟩ : ∃ x, t[3 * j]? = some x := ⟨t[3 * j]'(by omega), List.getElem?_eq_getElem _⟩
            obtain ⟨y, hy⟩ : ∃ y, t[3 * j + 1]? = some y := ⟨t[3 * j + 1]'(by omega), List.getElem?_eq_getElem _⟩
            obtain ⟨z, hz⟩ : ∃ z, t[3 * j + 2]? = some z := ⟨t[3 * j + 2]'(by omega), List.getElem?_eq_getElem _⟩
            obtain ⟨bp, op, rfl, hc⟩ := HTI.out.at_ (by omega)
            have c0 := hc (3 * j) x hx
            have c1 := hc (3 * j + 1) y hy
            have c2 := hc (3 * j + 2) z hz
            have HS : Hid (∀ V : World, Below W0.heap.size W0 V → (V.cell? ⟨w.heap.size, 1, none⟩ = some (.slice (some ⟨bp, op, none⟩) tn tc) ∧ V.cell? ⟨bp, op + j * 3, none⟩ = some (.int .i64 x) ∧ V.cell? ⟨bp, op + j * 3 + 1, none⟩ = some (.int .i64 y) ∧ V.cell? ⟨bp, op + j * 3 + 2, none⟩ = some (.int .i64 z))) := by
              intro V hV
              have hbw := HW0.out.trans (hV.mono HW0.out.size)
              have g0 := (hbw.cell (p := ⟨bp, op + 3 * j, none⟩) (lt_of_cell c0)).trans c0
              have g1 := (hbw.cell (p := ⟨bp, op + (3 * j + 1), none⟩) (lt_of_cell c1)).trans c1
              have g2 := (hbw.cell (p := ⟨bp, op + (3 * j + 2), none⟩) (lt_of_cell c2)).trans c2
              rw [Nat.mul_comm 3 j] at g0 g1 g2
              rw [← Nat.add_assoc] at g1 g2
              exact ⟨(hV.cell (p := ⟨w.heap.size, 1, none⟩) (lt_of_cell (HBX.out 1 _ rfl))).trans (HBX.out 1 _ rfl), g0, g1, g2⟩
            have HT3 := Lib.hid (take3 hx hy hz)
            have hbx := (HS.out _ HB.out).1
            have HBD := Lib.hid HB.out.drew
            have HBA := Lib.hid (HB.out.alloc HB.out.size (.cells #[.int .i64 x, .int .i64 y, .int .i64 z] 3)).drew
            have HOA := Lib.hid (HO.out.later ((Below.refl wr.heap.size wr).alloc (Nat.le_refl _) (.cells #[.int .i64 x, .int .i64 y, .int .i64 z] 3)).drew)
            have HIN : Hid (Ints (wr.alloc (.cells #[.int .i64 x, .int .i64 y, .int .i64 z] 3)).drew (some ⟨wr.heap.size, 0, none⟩) [x, y, z]) := ints_new3 wr _ x y z
            have HLL : Hid ((H1 ++ t.take (3 * j)).length + [x, y, z].length ≤ 1000000000) := by show _ ≤ _; have := HL1.out; simp only [List.length_append, List.length_take, List.length_cons, List.length_nil]; omega
            clear hc c0 c1 c2 hx hy hz hpl
            go_wp2_with fail
            go_region_held_law (fun V => V.cell? ⟨w.heap.size, 1, none⟩ = some (.slice (some ⟨bp, op, none⟩) tn tc) ∧ V.cell? ⟨bp, op + j * 3, none⟩ = some (.int .i64 x) ∧ V.cell? ⟨bp, op + j * 3 + 1, none⟩ = some (.int .i64 y) ∧ V.cell? ⟨bp, op + j * 3 + 2, none⟩ = some (.int .i64 z))
              (first | (with_reducible exact HS.out _ HBD.out) | (with_reducible exact HS.out _ HBA.out) | (with_reducible exact HS.out _ HB6.out) | fail)
              ((refine step_appendI (m := [x, y, z]) (by rfl) _ _ (by rfl) (by rfl) HOA.out (by rfl) (by rfl) HIN.out HLL.out HBA.out.size ?_
                intro v6 w6 ho6 hg6
                have HB6 := Lib.hid (HBA.out.grown hg6 HBA.out.size (fun k hk => (HOA.out.lt k hk).1))
                have HO6 := Lib.hid ho6
                clear ho6))
            all_goals
              go_wp2_with fail
              go_roundw
              case rel => exact ⟨j + 1, by omega, by go_num, by rw [HT3.out, ← List.append_assoc]; exact HO6.out, HB6.out⟩
              case measure => simp [intOf]; omega
          · obtain rfl : tn = j := by omega
            have hb1 := (HB.out.cell (p := ⟨w.heap.size, 1, none⟩) (lt_of_cell (HBX.out 1 _ rfl))).trans (HBX.out 1 _ rfl)
            have hb3 := (HB.out.cell (p := ⟨w.heap.size, 3, none⟩) (lt_of_cell (HBX.out 3 _ rfl))).trans (HBX.out 3 _ rfl)
            have ho := HO.out
            rw [List.take_of_length_le (by omega)] at ho
            have hbw : Below w.heap.size w wr := HW0.out.trans (HB.out.mono HW0.out.size)
            have tk := HKI.out.below hbw
            have HLN : Hid ((H1 ++ t).length = 3 + 3 * pn + 3 * tn) := by show _ = _; rw [List.length_append, HL1.out, hpl]
            clear hbw hpl HO
            go_wp2_with (at_builtin; refine stop ?_)
            refine unstop (wpList_appendI rfl _ _ rfl rfl ho rfl HKL.out.symm tk (by rw [HLN.out, HKL.out]; omega) HB.out.size ?_)
            intro v2 w2 h2 hg2
            have hb2 := below_appendI HB.out ho (Nat.le_refl _) hg2
            have e : H1 ++ t ++ k = NB := by rw [HNN.out, HH1.out, HH0.out]
            rw [e] at h2
            clear hg2 ho tk e
            go_wp2_with fail
            go_ret
            refine ⟨v2, rfl, ⟨h2.1, ?_⟩, HW0.out.trans (hb2.mono HW0.out.size)⟩
            rcases h2.2 with hn | ⟨g, cap, cur, rfl, hbg, rest⟩
            · exact .inl hn
            · exact .inr ⟨g, cap, cur, rfl, Nat.le_trans HW0.out.size hbg, rest⟩

end Go.Proofs.YtjcffbhgjmaicaaDoor
