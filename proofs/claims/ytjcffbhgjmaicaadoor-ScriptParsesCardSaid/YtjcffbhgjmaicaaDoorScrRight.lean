/-
  Layer 55 (script): right steps.
-/
import Derived.Test.YtjcffbhgjmaicaaDoorScrNamed
import Derived.Test.YtjcffbhgjmaicaaDoorScrShapes
import Derived.Deep.RegionHeld3
namespace Go.Proofs.YtjcffbhgjmaicaaDoor
open Go.RowKit
open Script

theorem toList_loop (a : ByteArray) : ∀ (n i : Nat) (r : List UInt8), n = a.size - i → ByteArray.toList.loop a i r = r.reverse ++ a.data.toList.drop i := by
  intro n
  induction n with
  | zero =>
    intro i r h
    unfold ByteArray.toList.loop
    have : ¬ i < a.size := by omega
    rw [if_neg this, List.drop_of_length_le (by rw [Array.length_toList]; exact Nat.le_of_not_lt this), List.append_nil]
  | succ n ih =>
    intro i r h
    unfold ByteArray.toList.loop
    have hi : i < a.size := by omega
    rw [if_pos hi, ih (i + 1) _ (by omega), List.reverse_cons, List.append_assoc]
    congr 1
    have hi2 : i < a.data.toList.length := by rw [Array.length_toList]; exact hi
    rw [List.drop_eq_getElem_cons hi2, List.singleton_append]
    congr 1
    show a.data[i]! = _
    rw [getElem!_pos a.data i hi]
    simp
theorem bytes_toList (a : ByteArray) : a.toList = a.data.toList := by
  rw [ByteArray.toList, toList_loop a _ 0 [] rfl]; rfl

/-- A step's cells. -/
def stepCells (k : Int) (nm : ByteArray) (n0 n1 n2 n3 : Int) (b : Script.Body) (ta pa ka : Option Addr) (tc pc kc : Nat) : Array Value :=
  #[.int .i64 k, .string nm, .int .i64 n0, .int .i64 n1, .int .i64 n2, .int .i64 n3, .int .i64 b.sn, .slice ta b.tn tc, .slice pa b.pn pc, .slice ka b.k.length kc]
/-- The step that they read as. -/
def stepOf (k : Int) (nm : ByteArray) (n0 n1 n2 n3 : Int) (b : Script.Body) : Script.Step := { kind := k, name := nm.data.toList, n := [n0, n1, n2, n3], body := b }

theorem ints_new4 {W : World} {g o : Nat} {n0 n1 n2 n3 : Int} (h0 : W.cell? ⟨g, o, none⟩ = some (.int .i64 n0)) (h1 : W.cell? ⟨g, o + 1, none⟩ = some (.int .i64 n1)) (h2 : W.cell? ⟨g, o + 2, none⟩ = some (.int .i64 n2)) (h3 : W.cell? ⟨g, o + 3, none⟩ = some (.int .i64 n3)) :
    Ints W (some ⟨g, o, none⟩) [n0, n1, n2, n3] := by
  refine fun _ => ⟨_, _, rfl, fun j u hj => ?_⟩
  match j, hj with
  | 0, hj => simp [intCell] at hj; subst hj; exact h0
  | 1, hj => simp [intCell] at hj; subst hj; exact h1
  | 2, hj => simp [intCell] at hj; subst hj; exact h2
  | 3, hj => simp [intCell] at hj; subst hj; exact h3
  | n + 4, hj => simp at hj

theorem ints_drop {W : World} {g o : Nat} {l : List Int} (h : Ints W (some ⟨g, o, none⟩) l) (m : Nat) : Ints W (some ⟨g, o + m, none⟩) (l.drop m) := by
  intro hp
  obtain ⟨b, off, e, hc⟩ := h.at_ (by simp at hp; omega)
  injection e with e
  injection e with e1 e2 _
  subst e1 e2
  refine ⟨_, _, rfl, fun j u hj => ?_⟩
  rw [List.getElem?_map, List.getElem?_drop] at hj
  obtain ⟨y, hy, rfl⟩ := Option.map_eq_some_iff.1 hj
  have := hc (m + j) y hy
  rw [Nat.add_assoc]
  exact this

theorem run_tail4 (g m : Nat) (hm : m ≤ 4) : ∃ A, (∀ V : World, (Instr.sliceAt 49 (.pointer (some ⟨g, 2, none⟩)) (some (.int .i64 (m : Int))) none none).run Tryd.prog V = .ok (.slice A (4 - m) (4 - m)) V) ∧
    ∀ (V : World) (l : List Int), l.length = 4 → Ints V (some ⟨g, 2, none⟩) l → Ints V A (l.drop m) := by
  have hz : ∀ (V : World) (A : Option Addr) (l : List Int), l.length = 4 → Ints V A (l.drop 4) := fun V A l hl => by
    rw [List.drop_of_length_le (by omega)]; exact ints_nil V A
  rcases (show m = 0 ∨ m = 1 ∨ m = 2 ∨ m = 3 ∨ m = 4 by omega) with rfl | rfl | rfl | rfl | rfl
  · exact ⟨some ⟨g, 2, none⟩, fun V => by kernel_rfl, fun V l _ h => h⟩
  · exact ⟨some ⟨g, 3, none⟩, fun V => by kernel_rfl, fun V l _ h => ints_drop h 1⟩
  · exact ⟨some ⟨g, 4, none⟩, fun V => by kernel_rfl, fun V l _ h => ints_drop h 2⟩
  · exact ⟨some ⟨g, 5, none⟩, fun V => by kernel_rfl, fun V l _ h => ints_drop h 3⟩
  · exact ⟨some ⟨g, 2, none⟩, fun V => by kernel_rfl, fun V l hl _ => hz V _ l hl⟩

set_option maxRecDepth 100000 in
set_option maxHeartbeats 4000000 in
theorem right_some (k : Int) (nm : ByteArray) (n0 n1 n2 n3 : Int) (b : Script.Body) (ta pa ka : Option Addr) (tc pc kc : Nat) (w : World) (h : BodyAt w b ta pa ka) (hp : b.pn ≤ 100000) (ht : b.tn ≤ 100000) (hk : b.k.length ≤ 1000000) (hnm : nm.size ≤ 9223372036854775807)
    {x : List UInt8 × Nat} (hs : Script.shape k = some x) :
    Calls Tryd.prog 31 #[.agg (stepCells k nm n0 n1 n2 n3 b ta pa ka tc pc kc)] w fun e w' => e = .returned (.bool (Script.right (stepOf k nm n0 n1 n2 n3 b))) ∧ Below w.heap.size w w' := by
  unfold stepCells
  have hm4 : x.2 ≤ 4 := shapes_many _ (shape_mem hs).1
  have HRT : Hid (Script.right (stepOf k nm n0 n1 n2 n3 b) = ([n0, n1, n2, n3].all Script.small && ([n0, n1, n2, n3].drop x.2).all (fun y => decide (y = 0)) && (if k = 1 then Script.named nm.data.toList && Script.fits b else decide (nm.data.toList = []) && Script.empty b))) := by
    show _ = _
    unfold Script.right
    rw [show Script.shape (stepOf k nm n0 n1 n2 n3 b).kind = some x from hs]
    rfl
  have HSM := Lib.hid (fun (V : World) (a : Option Addr) (hV : Ints V a [n0, n1, n2, n3]) => small_any a 4 4 [n0, n1, n2, n3] V rfl (by omega) hV)
  have HNM := Lib.hid (fun (V : World) => named_any nm V hnm)
  have HFT := Lib.hid (fun (V : World) (hV : Below w.heap.size w V) => fits_any b ta pa ka tc pc kc V (h.below hV) hp ht hk)
  have HEM := Lib.hid (fun (V : World) => empty_any b ta pa ka tc pc kc V hp ht hk)
  have HNL : Hid (∃ NL, NL = [n0, n1, n2, n3]) := ⟨_, rfl⟩
  generalize Script.right (stepOf k nm n0 n1 n2 n3 b) = RT at *
  generalize Script.named nm.data.toList = NM at *
  generalize Script.fits b = FT at *
  generalize Script.empty b = EM at *
  clear h
  go_enter Tryd.func31, Tryd.ntmps31
  go_wp2_with fail
  have c0 : (w.alloc (.cells #[.int .i64 k, .string nm, .int .i64 n0, .int .i64 n1, .int .i64 n2, .int .i64 n3, .int .i64 b.sn, .slice ta b.tn tc, .slice pa b.pn pc, .slice ka b.k.length kc] 51)).cell? ⟨w.heap.size, 0, none⟩ = some (.int .i64 k) := by rw [World.cell?_alloc_new]; rfl
  have hw0 := (Below.refl w.heap.size w).alloc (Nat.le_refl _) (.cells #[.int .i64 k, .string nm, .int .i64 n0, .int .i64 n1, .int .i64 n2, .int .i64 n3, .int .i64 b.sn, .slice ta b.tn tc, .slice pa b.pn pc, .slice ka b.k.length kc] 51)
  have HI4W := ints_new4 (W := w.alloc (.cells #[.int .i64 k, .string nm, .int .i64 n0, .int .i64 n1, .int .i64 n2, .int .i64 n3, .int .i64 b.sn, .slice ta b.tn tc, .slice pa b.pn pc, .slice ka b.k.length kc] 51)) (g := w.heap.size) (o := 2) (n0 := n0) (n1 := n1) (n2 := n2) (n3 := n3) (by rw [World.cell?_alloc_new]; rfl) (by rw [World.cell?_alloc_new]; rfl) (by rw [World.cell?_alloc_new]; rfl) (by rw [World.cell?_alloc_new]; rfl)
  have HCW : ∀ j u, #[Value.int .i64 k, .string nm, .int .i64 n0, .int .i64 n1, .int .i64 n2, .int .i64 n3, .int .i64 b.sn, .slice ta b.tn tc, .slice pa b.pn pc, .slice ka b.k.length kc][j]? = some u → (w.alloc (.cells #[.int .i64 k, .string nm, .int .i64 n0, .int .i64 n1, .int .i64 n2, .int .i64 n3, .int .i64 b.sn, .slice ta b.tn tc, .slice pa b.pn pc, .slice ka b.k.length kc] 51)).cell? ⟨w.heap.size, j, none⟩ = some u := fun j u hj => by rw [World.cell?_alloc_new]; exact hj
  generalize w.alloc (.cells #[.int .i64 k, .string nm, .int .i64 n0, .int .i64 n1, .int .i64 n2, .int .i64 n3, .int .i64 b.sn, .slice ta b.tn tc, .slice pa b.pn pc, .slice ka b.k.length kc] 51) = W0 at *
  have HW0 := Lib.hid hw0
  have HI4 := Lib.hid (fun V (hV : Below W0.heap.size W0 V) => HI4W.below hV)
  have HCC := Lib.hid (fun V (hV : Below W0.heap.size W0 V) j u hj => (hV.cell (p := ⟨w.heap.size, j, none⟩) (lt_of_cell (HCW j u hj))).trans (HCW j u hj))
  clear hw0 HI4W HCW
  have HC0 : Hid (∀ V, Below W0.heap.size W0 V → Below W0.heap.size W0 V ∧ V.cell? ⟨w.heap.size, 0, none⟩ = some (.int .i64 k)) := fun V hV => ⟨hV, (hV.cell (p := ⟨w.heap.size, 0, none⟩) (lt_of_cell c0)).trans c0⟩
  have l1 := look_shape (w := (W0.alloc (.map shapeEntries 13)).drew) (r := W0.heap.size) (shapesAt_new W0) hs true
  have l2 := look_shape (w := ((W0.alloc (.map shapeEntries 13)).alloc (.cells #[.string ⟨#[]⟩, .int .i64 0] 82)).drew) (r := W0.heap.size) ((shapesAt_new W0).below ((Below.refl _ _).alloc (Nat.le_refl _) (.cells #[.string ⟨#[]⟩, .int .i64 0] 82)).drew) hs true
  have l3 := look_shape (w := ((W0.alloc (.cells #[.string ⟨#[]⟩, .int .i64 0] 82)).alloc (.map shapeEntries 13)).drew) (r := W0.heap.size + 1) (by
    have h := shapesAt_new (W0.alloc (.cells #[.string ⟨#[]⟩, .int .i64 0] 82))
    rw [World.size_alloc] at h
    exact h) hs true
  obtain ⟨wd, m⟩ := x
  simp only at hm4 HRT
  simp only [shapeVal, if_true] at l1 l2 l3
  have b1 := (Below.refl W0.heap.size W0)
  have cx1 : ((W0.alloc (.map shapeEntries 13)).alloc (.cells #[.string ⟨wd.toArray⟩, .int .i64 (m : Int)] 82)).drew.cell? ⟨W0.heap.size + 1, 1, none⟩ = some (.int .i64 (m : Int)) := by
    have h : ((W0.alloc (.map shapeEntries 13)).alloc (.cells #[.string ⟨wd.toArray⟩, .int .i64 (m : Int)] 82)).cell? ⟨(W0.alloc (.map shapeEntries 13)).heap.size, 1, none⟩ = some (.int .i64 (m : Int)) := by rw [World.cell?_alloc_new]; rfl
    rw [World.size_alloc] at h
    exact h
  have cx2 : ((W0.alloc (.cells #[.string ⟨wd.toArray⟩, .int .i64 (m : Int)] 82)).alloc (.map shapeEntries 13)).drew.cell? ⟨W0.heap.size, 1, none⟩ = some (.int .i64 (m : Int)) := by
    have h : (W0.alloc (.cells #[.string ⟨wd.toArray⟩, .int .i64 (m : Int)] 82)).cell? ⟨W0.heap.size, 1, none⟩ = some (.int .i64 (m : Int)) := by rw [World.cell?_alloc_new]; rfl
    exact (((Below.refl _ (W0.alloc (.cells #[.string ⟨wd.toArray⟩, .int .i64 (m : Int)] 82))).alloc (Nat.le_refl _) (.map shapeEntries 13)).cell (p := ⟨W0.heap.size, 1, none⟩) (lt_of_cell h)).trans h
  have CX1 := Lib.hid cx1
  have CX2 := Lib.hid cx2
  clear cx1 cx2
  go_region_held3 (fun V => Below W0.heap.size W0 V ∧ V.cell? ⟨w.heap.size, 0, none⟩ = some (.int .i64 k))
    (first
      | exact HC0.out _ b1.drew
      | exact HC0.out _ (b1.alloc (Nat.le_refl _) _).drew
      | exact HC0.out _ ((b1.alloc (Nat.le_refl _) _).alloc (by simp) _).drew)
    (first
      | (go_at_call 34; refine (shapes_any _).mono ?_; rintro e w5 ⟨rfl, rfl⟩))
  all_goals
    have hV := (show Below W0.heap.size W0 _ from (by assumption : Below W0.heap.size W0 _ ∧ _).1)
    clear l1 l2 l3
    go_wp2_with fail
    refine (HSM.out _ _ (HI4.out _ hV)).mono ?_
    rintro e w' ⟨rfl, hw⟩
    rw [hw] at hV
    first
      | (have hx := CX1.out; rw [hw] at hx)
      | (have hx := CX2.out; rw [hw] at hx)
    have HV := Lib.hid hV
    cases hall : [n0, n1, n2, n3].all Script.small with
    | false =>
      have hrt : RT = false := by rw [HRT.out, hall]; rfl
      have HR := Lib.hid hrt
      clear hrt hall hV hw HRT
      go_wp2_with fail
      go_ret
      exact ⟨by rw [HR.out]; rfl, HW0.out.trans (HV.out.mono HW0.out.size)⟩
    | true =>
      have HALL := Lib.hid hall
      obtain ⟨AT, hat, hti⟩ := run_tail4 w.heap.size m hm4
      have hT4 := hti w' [n0, n1, n2, n3] rfl (HI4.out w' HV.out)
      have HLL : Hid (([n0, n1, n2, n3].drop m).length = 4 - m) := by show _ = _; rw [List.length_drop]; rfl
      obtain ⟨L, hL⟩ : ∃ L, L = [n0, n1, n2, n3].drop m := ⟨_, rfl⟩
      have HRL : Hid (RT = (L.all (fun y => decide (y = 0)) && (if k = 1 then NM && FT else decide (nm.data.toList = []) && EM))) := by show _ = _; rw [HRT.out, HALL.out, Bool.true_and, hL]
      rw [← hL] at hT4 HLL
      have HTL := Lib.hid hT4
      obtain ⟨q, hq⟩ : ∃ q, q = 4 - m := ⟨_, rfl⟩
      have hq4 : q ≤ 4 := by omega
      rw [← hq] at hat HLL
      clear hall hV hw hti hT4 hL hq HRT HALL
      go_wp2_with fail
      go_loop [27, 6] (fun i _ => ∃ j : Nat, j ≤ q ∧ i = .int .i64 j ∧ (L.take j).all (fun y => decide (y = 0)) = true) (fun i _ => q - (intOf i).toNat)
      case atStart => exact ⟨0, by omega, rfl, by simp⟩
      case round =>
        obtain ⟨j, hj, rfl, hz⟩ := hrel
        by_cases hjq : j < q
        · obtain ⟨u, hu⟩ : ∃ u, L[j]? = some u := ⟨L[j]'(by rw [HLL.out]; exact hjq), List.getElem?_eq_getElem _⟩
          obtain ⟨bb, off, rfl, hc⟩ := HTL.out.at_ (by rw [HLL.out]; omega)
          have hcl := hc j u hu
          have HU := Lib.hid hu
          have HZ := Lib.hid hz
          clear hc hu hz
          by_cases hu0 : u = 0
          · subst hu0
            go_wp2_with fail
            go_round
            case rel => exact ⟨j + 1, by omega, by go_num, by rw [take_snoc HU.out, List.all_append, HZ.out]; simp⟩
            case measure => simp [intOf]; omega
          · have hrt : RT = false := by
              rw [HRL.out]
              have : L.all (fun y => decide (y = 0)) = false := by
                rw [List.all_eq_false]
                exact ⟨u, List.mem_of_getElem? HU.out, by simp [hu0]⟩
              rw [this]; rfl
            have HR := Lib.hid hrt
            have hne : (u != 0) = true := by rw [bne_iff_ne]; exact hu0
            clear hrt HRL
            go_wp2_with fail
            go_ret
            exact ⟨by rw [HR.out]; rfl, HW0.out.trans (HV.out.mono HW0.out.size)⟩
        · have hjq2 : j = q := by omega
          subst hjq2
          have HALZ : Hid (RT = (if k = 1 then NM && FT else decide (nm.data.toList = []) && EM)) := by
            show _ = _
            rw [List.take_of_length_le (by rw [HLL.out]; exact Nat.le_refl _)] at hz
            rw [HRL.out, hz, Bool.true_and]
          clear hz HRL
          have g1 := HCC.out _ HV.out 1 _ rfl
          have g0 := HCC.out _ HV.out 0 _ rfl
          have g6 := HCC.out _ HV.out 6 _ rfl
          have g7 := HCC.out _ HV.out 7 _ rfl
          have g8 := HCC.out _ HV.out 8 _ rfl
          have g9 := HCC.out _ HV.out 9 _ rfl
          by_cases hk1 : k = 1
          · have hrt : RT = (NM && FT) := by rw [HALZ.out, if_pos hk1]
            have HR := Lib.hid hrt
            have hkb : (k == 1) = true := by rw [beq_iff_eq]; exact hk1
            clear hrt HALZ hk1
            go_wp2_with fail
            refine (HNM.out _).mono ?_
            rintro e w6 ⟨rfl, hb6⟩
            have HB6 := Lib.hid (HV.out.trans (hb6.mono HV.out.size))
            clear hb6
            have g6 := HCC.out _ HB6.out 6 _ rfl
            have g7 := HCC.out _ HB6.out 7 _ rfl
            have g8 := HCC.out _ HB6.out 8 _ rfl
            have g9 := HCC.out _ HB6.out 9 _ rfl
            cases NM with
            | false =>
              go_wp2_with fail
              go_ret
              exact ⟨by rw [HR.out]; rfl, HW0.out.trans (HB6.out.mono HW0.out.size)⟩
            | true =>
              go_wp2_with fail
              refine (HFT.out _ (HW0.out.trans (HB6.out.mono HW0.out.size))).mono ?_
              rintro e w7 ⟨rfl, hb7⟩
              have HB7 := Lib.hid (HB6.out.trans (hb7.mono HB6.out.size))
              clear hb7
              go_wp2_with fail
              go_ret
              exact ⟨by rw [HR.out]; rfl, HW0.out.trans (HB7.out.mono HW0.out.size)⟩
          · have hrt : RT = (decide (nm.data.toList = []) && EM) := by rw [HALZ.out, if_neg hk1]
            have HR := Lib.hid hrt
            have hkb : (k == 1) = false := by rw [beq_eq_false_iff_ne]; exact hk1
            clear hrt HALZ hk1
            by_cases hnn : nm = ⟨#[]⟩
            · subst hnn
              go_wp2_with fail
              refine (HEM.out _).mono ?_
              rintro e w7 ⟨rfl, hb7⟩
              have HB7 := Lib.hid (HV.out.trans (hb7.mono HV.out.size))
              clear hb7
              go_wp2_with fail
              go_ret
              exact ⟨by rw [HR.out]; rfl, HW0.out.trans (HB7.out.mono HW0.out.size)⟩
            · have hnl : ¬ nm.data.toList = [] := fun h => hnn (by cases nm with | mk d => congr 1; exact Array.toList_inj.1 (by simpa using h))
              have HNNL := Lib.hid hnl
              have hn1 : ¬ nm.toList = [] := by rw [bytes_toList]; exact hnl
              have hn2 : (nm.toList == []) = false := by rw [beq_eq_false_iff_ne]; exact hn1
              have hn3 : nm.toList.isEmpty = false := by
                cases hh : nm.toList with
                | nil => exact absurd hh hn1
                | cons c r => rfl
              clear hnl
              go_wp2_with fail
              go_ret
              exact ⟨by rw [HR.out, decide_eq_false HNNL.out]; rfl, HW0.out.trans (HV.out.mono HW0.out.size)⟩

set_option maxRecDepth 100000 in
set_option maxHeartbeats 4000000 in
theorem right_none (k : Int) (nm : ByteArray) (n0 n1 n2 n3 : Int) (b : Script.Body) (ta pa ka : Option Addr) (tc pc kc : Nat) (w : World) (hs : Script.shape k = none) :
    Calls Tryd.prog 31 #[.agg (stepCells k nm n0 n1 n2 n3 b ta pa ka tc pc kc)] w fun e w' => e = .returned (.bool (Script.right (stepOf k nm n0 n1 n2 n3 b))) ∧ Below w.heap.size w w' := by
  unfold stepCells
  have HRT : Hid (Script.right (stepOf k nm n0 n1 n2 n3 b) = false) := by
    show _ = _
    unfold Script.right
    rw [show Script.shape (stepOf k nm n0 n1 n2 n3 b).kind = none from hs]
  rw [HRT.out]
  go_enter Tryd.func31, Tryd.ntmps31
  go_wp2_with fail
  have c0 : (w.alloc (.cells #[.int .i64 k, .string nm, .int .i64 n0, .int .i64 n1, .int .i64 n2, .int .i64 n3, .int .i64 b.sn, .slice ta b.tn tc, .slice pa b.pn pc, .slice ka b.k.length kc] 51)).cell? ⟨w.heap.size, 0, none⟩ = some (.int .i64 k) := by rw [World.cell?_alloc_new]; rfl
  have hw0 := (Below.refl w.heap.size w).alloc (Nat.le_refl _) (.cells #[.int .i64 k, .string nm, .int .i64 n0, .int .i64 n1, .int .i64 n2, .int .i64 n3, .int .i64 b.sn, .slice ta b.tn tc, .slice pa b.pn pc, .slice ka b.k.length kc] 51)
  generalize w.alloc (.cells #[.int .i64 k, .string nm, .int .i64 n0, .int .i64 n1, .int .i64 n2, .int .i64 n3, .int .i64 b.sn, .slice ta b.tn tc, .slice pa b.pn pc, .slice ka b.k.length kc] 51) = W0 at *
  have HW0 := Lib.hid hw0
  clear hw0
  have HC0 : Hid (∀ V, Below W0.heap.size W0 V → Below W0.heap.size W0 V ∧ V.cell? ⟨w.heap.size, 0, none⟩ = some (.int .i64 k)) := fun V hV => ⟨hV, (hV.cell (p := ⟨w.heap.size, 0, none⟩) (lt_of_cell c0)).trans c0⟩
  have l1 := look_none (w := (W0.alloc (.map shapeEntries 13)).drew) (r := W0.heap.size) (shapesAt_new W0) hs true
  have l2 := look_none (w := ((W0.alloc (.map shapeEntries 13)).alloc (.cells #[.string ⟨#[]⟩, .int .i64 0] 82)).drew) (r := W0.heap.size) ((shapesAt_new W0).below ((Below.refl _ _).alloc (Nat.le_refl _) (.cells #[.string ⟨#[]⟩, .int .i64 0] 82)).drew) hs true
  have l3 := look_none (w := ((W0.alloc (.cells #[.string ⟨#[]⟩, .int .i64 0] 82)).alloc (.map shapeEntries 13)).drew) (r := W0.heap.size + 1) (by
    have h := shapesAt_new (W0.alloc (.cells #[.string ⟨#[]⟩, .int .i64 0] 82))
    rw [World.size_alloc] at h
    exact h) hs true
  simp only [if_true] at l1 l2 l3
  have b1 := (Below.refl W0.heap.size W0)
  go_region_held3 (fun V => Below W0.heap.size W0 V ∧ V.cell? ⟨w.heap.size, 0, none⟩ = some (.int .i64 k))
    (first
      | exact HC0.out _ b1.drew
      | exact HC0.out _ (b1.alloc (Nat.le_refl _) _).drew
      | exact HC0.out _ ((b1.alloc (Nat.le_refl _) _).alloc (by simp) _).drew)
    (first
      | (go_at_call 34; refine (shapes_any _).mono ?_; rintro e w5 ⟨rfl, rfl⟩))
  all_goals
    have hV := (show Below W0.heap.size W0 _ from (by assumption : Below W0.heap.size W0 _ ∧ _).1)
    clear l1 l2 l3
    go_wp2_with fail
    go_ret
    exact ⟨rfl, HW0.out.trans (hV.mono HW0.out.size)⟩

theorem right_any (k : Int) (nm : ByteArray) (n0 n1 n2 n3 : Int) (b : Script.Body) (ta pa ka : Option Addr) (tc pc kc : Nat) (w : World) (h : BodyAt w b ta pa ka) (hp : b.pn ≤ 100000) (ht : b.tn ≤ 100000) (hk : b.k.length ≤ 1000000) (hnm : nm.size ≤ 9223372036854775807) :
    Calls Tryd.prog 31 #[.agg (stepCells k nm n0 n1 n2 n3 b ta pa ka tc pc kc)] w fun e w' => e = .returned (.bool (Script.right (stepOf k nm n0 n1 n2 n3 b))) ∧ Below w.heap.size w w' := by
  cases hs : Script.shape k with
  | none => exact right_none k nm n0 n1 n2 n3 b ta pa ka tc pc kc w hs
  | some x => exact right_some k nm n0 n1 n2 n3 b ta pa ka tc pc kc w h hp ht hk hnm hs

end Go.Proofs.YtjcffbhgjmaicaaDoor
