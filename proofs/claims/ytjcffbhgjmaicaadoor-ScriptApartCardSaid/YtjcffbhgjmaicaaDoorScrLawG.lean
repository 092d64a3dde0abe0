/-
  Layer 55 (script): ScriptApart.
-/
import Derived.Test.YtjcffbhgjmaicaaDoorScrLawA
namespace Go.Proofs.YtjcffbhgjmaicaaDoor
open Go.RowKit
open Script

/-- V is U with other integers in blocks from B on: what else U's cells held, they hold. -/
structure Turned (B : Nat) (U V : World) : Prop where
  bel : Below B U V
  cells : ∀ p v, U.cell? p = some v → (∃ z z', v = .int .i64 z ∧ V.cell? p = some (.int .i64 z')) ∨ V.cell? p = some v
  free : ∀ p, U.frozen? p = false → V.frozen? p = false

theorem Turned.refl (B : Nat) (U : World) : Turned B U U := ⟨Below.refl _ _, fun _ _ h => .inr h, fun _ h => h⟩

theorem Turned.set {B : Nat} {U V : World} (h : Turned B U V) {p : Addr} (hp : B ≤ p.block) {z : Int} (hz : V.cell? p = some (.int .i64 z)) (y : Int) : Turned B U (V.setCell p (.int .i64 y)) := by
  refine ⟨h.bel.setCell hp _, fun q v hq => ?_, fun q hq => (World.frozen?_setCell _ _ _ _).trans (h.free q hq)⟩
  by_cases e : p = q
  · subst e
    left
    rcases h.cells p v hq with ⟨z0, z1, h1, -⟩ | h2
    · exact ⟨z0, y, h1, World.cell?_setCell_same _ _ _ hz⟩
    · rw [hz] at h2
      injection h2 with h2
      exact ⟨z, y, h2.symm, World.cell?_setCell_same _ _ _ hz⟩
  · rw [World.cell?_setCell_other _ _ _ _ e]
    exact h.cells q v hq

theorem off_ne {g a b : Nat} (h : a ≠ b) : (⟨g, a, none⟩ : Addr) ≠ ⟨g, b, none⟩ := fun e => by injection e with _ e _; exact h e

theorem Turned.set3 {B : Nat} {U V : World} (h : Turned B U V) {g o : Nat} (hp : B ≤ g) {z0 z1 z2 : Int} (h0 : V.cell? ⟨g, o, none⟩ = some (.int .i64 z0)) (h1 : V.cell? ⟨g, o + 1, none⟩ = some (.int .i64 z1)) (h2 : V.cell? ⟨g, o + 2, none⟩ = some (.int .i64 z2)) (y : Int) :
    Turned B U (((V.setCell ⟨g, o, none⟩ (.int .i64 y)).setCell ⟨g, o + 1, none⟩ (.int .i64 y)).setCell ⟨g, o + 2, none⟩ (.int .i64 y)) := by
  have e1 : (V.setCell ⟨g, o, none⟩ (.int .i64 y)).cell? ⟨g, o + 1, none⟩ = some (.int .i64 z1) := by rw [World.cell?_setCell_other _ _ _ _ (off_ne (by omega))]; exact h1
  have e2 : ((V.setCell ⟨g, o, none⟩ (.int .i64 y)).setCell ⟨g, o + 1, none⟩ (.int .i64 y)).cell? ⟨g, o + 2, none⟩ = some (.int .i64 z2) := by
    rw [World.cell?_setCell_other _ _ _ _ (off_ne (by omega)), World.cell?_setCell_other _ _ _ _ (off_ne (by omega))]; exact h2
  exact ((h.set (p := ⟨g, o, none⟩) hp h0 y).set (p := ⟨g, o + 1, none⟩) hp e1 y).set (p := ⟨g, o + 2, none⟩) hp e2 y

/-- A row of ints in a block of one's own, whatever is written over it. -/
theorem loose_ints {B base : Nat} {U : World} {a : Option Addr} {l : List Int} {n : Nat} (hi : Ints U a l) (hf : FreeRow base U a n) (hB : B ≤ base) (hn : 0 < l.length → 0 < n) (hp : 0 < l.length) :
    ∃ g o, a = some ⟨g, o, none⟩ ∧ B ≤ g ∧ ∀ V, Turned B U V → ∀ k, k < l.length → (∃ z, V.cell? ⟨g, o + k, none⟩ = some (.int .i64 z)) ∧ V.frozen? ⟨g, o + k, none⟩ = false := by
  obtain ⟨g, o, e1, hc⟩ := hi.at_ hp
  obtain ⟨g', o', cs, t, e2, hb, hh⟩ := hf (hn hp)
  rw [e1] at e2
  injection e2 with e2
  injection e2 with e3 e4 _
  subst e3 e4
  refine ⟨g, o, e1, Nat.le_trans hB hb, fun V hV k hk => ⟨?_, hV.free _ (Lib.frozen_of_heap hh _)⟩⟩
  obtain ⟨y, hy⟩ : ∃ y, l[k]? = some y := ⟨l[k], List.getElem?_eq_getElem hk⟩
  rcases hV.cells _ _ (hc k y hy) with ⟨_, z', -, h⟩ | h
  · exact ⟨z', h⟩
  · exact ⟨y, h⟩

/-- The steps that were read, as they may be written over. -/
theorem OwnS.loose {w : World} {base : Nat} {v : Value} {l : List Script.Step} (h : OwnS w base v l) : ∃ a c, v = .slice a l.length c ∧ l.length ≤ c ∧ c ≤ maxLen ∧ ∀ (i : Nat) (x : Script.Step), l[i]? = some x →
    ∃ (g o : Nat) (cs : Array Value), a = some ⟨g, o, none⟩ ∧ base ≤ g ∧ (∀ j, w.frozen? ⟨g, j, none⟩ = false) ∧ StepF base w x cs ∧ ∀ j u, cs[j]? = some u → w.cell? ⟨g, o + (i * 10 + j), none⟩ = some u := by
  obtain ⟨a, c, rfl, g1, g2, hs⟩ := h.steps
  refine ⟨a, c, rfl, g1, g2, fun i x hi => ?_⟩
  obtain ⟨css, h1, h2, h3⟩ := h
  have hil : i < css.length := by rw [h1]; exact (List.getElem?_eq_some_iff.1 hi).1
  have hc : css[i]? = some css[i] := List.getElem?_eq_getElem hil
  have hv : ∀ (k : Nat) (x : Script.Step) (d : Array Value), l[k]? = some x → css[k]? = some d → StepF base w x d := fun k x d h h' => h3 k x d h h' w fun _ _ _ _ => rfl
  have hall : ∀ d ∈ css, d.size = 10 := by
    intro d hd
    obtain ⟨k, hk⟩ := List.getElem?_of_mem hd
    have hkl : k < l.length := by rw [← h1]; exact (List.getElem?_eq_some_iff.1 hk).1
    exact (stepV_cells (hv k _ d (List.getElem?_eq_getElem hkl) hk).1).1
  have hr : Row w a (css.flatMap Array.toList) := Row.own h2
  have hpos : 0 < (css.flatMap Array.toList).length := by
    have hs := flat_cells css i 0 css[i] (css[i][0]'(by rw [hall _ (List.getElem_mem hil)]; omega)) hall hc (Array.getElem?_eq_getElem _)
    have := (List.getElem?_eq_some_iff.1 hs).1
    omega
  obtain ⟨b, off, e1, hcell⟩ := hr hpos
  have hl0 : 0 < l.length := by have := (List.getElem?_eq_some_iff.1 hi).1; omega
  rcases h2.2 with ⟨-, h0⟩ | ⟨g, cap, cur, e2, hb, hg, -⟩
  · omega
  · injection e2 with e2 _ _
    rw [e1] at e2
    injection e2 with e2
    injection e2 with e3 e4 _
    subst e3 e4
    exact ⟨b, 0, _, e1, hb, fun j => Lib.frozen_of_heap hg j, hv i x _ hi hc, fun j u hj => hcell _ _ (flat_cells css i j _ u hall hc hj)⟩

set_option maxRecDepth 100000 in
set_option maxHeartbeats 4000000 in
theorem scriptApart_any (a : Option Addr) (n c : Nat) (l : List Script.Step) (z : Int) (w : World) (hn : l.length = n) (hn2 : n ≤ maxLen) (h : StepsAt0 w a l) (hrd : Ready w) :
    Calls Tryd.prog 10 #[.slice a n c, .int .i64 z] w fun e w' => e = .returned (.bool true) ∧ Below w.heap.size w w' := by
  have HAW := Lib.hid (awake_any w hrd)
  have HRD := Lib.hid (fun (V : World) (hV : Below w.heap.size w V) => hrd.below hV)
  have HGR := Lib.hid (fun (V : World) (hV : Below w.heap.size w V) => great_any a n c l V hn hn2 (h.below hV))
  unfold maxLen at hn2
  by_cases hg : greatS l = true
  · simp only [hg, if_true] at HGR
    clear h hrd
    go_enter Tryd.func10, Tryd.ntmps10
    go_wp2_with fail
    refine HAW.out.mono ?_
    rintro e w1 ⟨rfl, hb1⟩
    have HB1 := Lib.hid hb1
    clear hb1
    go_wp2_with fail
    refine (HGR.out _ HB1.out).mono ?_
    rintro e w2 ⟨rfl, rfl⟩
    go_wp2_with fail
    go_ret
    exact ⟨rfl, HB1.out⟩
  · have hg' : greatS l = false := by simpa using hg
    have hst := stepsAt_of h hg'
    simp only [hg', Bool.false_eq_true, if_false] at HGR
    clear h hrd hg
    by_cases h60 : 60 < n
    · clear hst
      go_enter Tryd.func10, Tryd.ntmps10
      go_wp2_with fail
      refine HAW.out.mono ?_
      rintro e w1 ⟨rfl, hb1⟩
      have HB1 := Lib.hid hb1
      clear hb1
      go_wp2_with fail
      refine (HGR.out _ HB1.out).mono ?_
      rintro e w2 ⟨rfl, rfl⟩
      go_wp2_with fail
      go_ret
      exact ⟨rfl, HB1.out⟩
    · have hn60 : n ≤ 60 := by omega
      clear h60 hn2
      have HTX := Lib.hid (fun (V : World) (hV : Below w.heap.size w V) => text_any a n c l V hn (by omega) (hst.below hV) (HRD.out V hV))
      cases hra : rightAll l with
      | false =>
        have e1 : textOf l = [] := by unfold textOf; rw [hra]; rfl
        have e2 : textErr l = 3 := by unfold textErr; rw [hra]; rfl
        rw [e1, e2] at HTX
        clear e1 e2 hra hst hg'
        go_enter Tryd.func10, Tryd.ntmps10
        go_wp2_with fail
        refine HAW.out.mono ?_
        rintro e w1 ⟨rfl, hb1⟩
        have HB1 := Lib.hid hb1
        clear hb1
        go_wp2_with fail
        refine (HGR.out _ HB1.out).mono ?_
        rintro e w2 ⟨rfl, rfl⟩
        go_wp2_with fail
        refine (HTX.out _ HB1.out).mono ?_
        rintro e w3 ⟨rfl, hb3⟩
        have HB3 := Lib.hid (HB1.out.trans (hb3.mono HB1.out.size))
        clear hb3
        go_wp2_with fail
        go_ret
        exact ⟨rfl, HB3.out⟩
      | true =>
        obtain ⟨e1, e2, e3, e4, -⟩ := right_text hst hg' hra
        rw [e1, e2] at HTX
        generalize Script.text l = T at *
        have HPA := Lib.hid (fun (V : World) (hV : Below w.heap.size w V) => parse_any ⟨T.toArray⟩ V (by show T.toArray.size ≤ _; rw [List.size_toArray]; exact e3) (HRD.out V hV))
        rw [show (ByteArray.mk T.toArray).data.toList = T from rfl, e4] at HPA
        unfold ParseRes at HPA
        obtain ⟨S, hS⟩ : ∃ S, S = ByteArray.mk T.toArray := ⟨_, rfl⟩
        rw [← hS] at HTX HPA
        have HN := Lib.hid hn
        have HPL := Lib.hid (fun (V : World) (hV : Below w.heap.size w V) => plain_any a n c l V hn (by omega) (hst.below hV))
        have HPP := Lib.hid (fun (V : World) (a' : Option Addr) (c' : Nat) (hV : StepsAt V a' l) => plain_any a' n c' l V hn (by omega) hV)
        have HSA := Lib.hid (fun (V : World) (a' b' : Option Addr) (ca cb : Nat) (hA : StepsAt V a' l) (hB : StepsAt V b' l) => same_any a' b' n ca cb l V hn (by omega) hA hB)
        clear hst hg' e1 e2 e3 e4 hra hS hn
        go_enter Tryd.func10, Tryd.ntmps10
        go_wp2_with fail
        refine HAW.out.mono ?_
        rintro e w1 ⟨rfl, hb1⟩
        have HB1 := Lib.hid hb1
        clear hb1
        go_wp2_with fail
        refine (HGR.out _ HB1.out).mono ?_
        rintro e w2 ⟨rfl, rfl⟩
        go_wp2_with fail
        refine (HTX.out _ HB1.out).mono ?_
        rintro e w3 ⟨rfl, hb3⟩
        have HB3 := Lib.hid (HB1.out.trans (hb3.mono HB1.out.size))
        clear hb3
        go_wp2_with fail
        refine (HPA.out _ HB3.out).mono ?_
        rintro e w4 ⟨⟨v4, rfl, ho4⟩, hb4⟩
        obtain ⟨a4, c4, rfl, g41, g42, hls⟩ := ho4.loose
        have HLS := Lib.hid hls
        have HBS := Lib.hid HB3.out.size
        have HB4 := Lib.hid (HB3.out.trans (hb4.mono HB3.out.size))
        have HT4 := Lib.hid (Turned.refl w.heap.size w4)
        clear hb4 ho4 hls
        rw [HN.out] at g41 ⊢
        go_wp2_with fail
        go_loopw [10] (fun i wr => ∃ j : Nat, j ≤ n ∧ i = .int .i64 j ∧ Turned w.heap.size w4 wr) (fun i _ => n - (intOf i).toNat)
        case atStart => exact ⟨0, by omega, rfl, HT4.out⟩
        case round =>
          obtain ⟨j, hj, rfl, ht⟩ := hrel
          have HT := Lib.hid ht
          clear ht
          by_cases hjn : j < n
          · obtain ⟨x, hx⟩ : ∃ x, l[j]? = some x := ⟨l[j]'(by rw [HN.out]; exact hjn), List.getElem?_eq_getElem _⟩
            obtain ⟨g, o, cs, rfl, hbg, hfz, hsf, hc⟩ := HLS.out j x hx
            obtain ⟨⟨nm, n0, n1, n2, n3, ta, pa, ka, tc, pc, kc, -, -, rfl, hbd, hpn0, -, hkl0, -⟩, pa', ka', pc', kc', e8, e9, hfp, hfk⟩ := hsf
            unfold stepCells at e8 e9 hc
            have e8' : pa = pa' ∧ pc = pc' := by simpa using e8
            have e9' : ka = ka' ∧ kc = kc' := by simpa using e9
            obtain ⟨rfl, rfl⟩ := e8'
            obtain ⟨rfl, rfl⟩ := e9'
            have hB := HBS.out
            have HBG : Hid (w.heap.size ≤ g) := Nat.le_trans hB hbg
            have HP : Hid (0 < x.body.pn → ∃ g' o', pa = some ⟨g', o', none⟩ ∧ w.heap.size ≤ g' ∧ ∀ V, Turned w.heap.size w4 V → ∀ k, k < 3 * x.body.pn → (∃ z, V.cell? ⟨g', o' + k, none⟩ = some (.int .i64 z)) ∧ V.frozen? ⟨g', o' + k, none⟩ = false) := by
              intro h0
              have := hbd.pl
              obtain ⟨g', o', q1, q2, q3⟩ := loose_ints hbd.p hfp hB (fun _ => h0) (by omega)
              exact ⟨g', o', q1, q2, fun V hV k hk => q3 V hV k (by omega)⟩
            have HK : Hid (0 < x.body.k.length → ∃ g' o', ka = some ⟨g', o', none⟩ ∧ w.heap.size ≤ g' ∧ ∀ V, Turned w.heap.size w4 V → ∀ k, k < x.body.k.length → (∃ z, V.cell? ⟨g', o' + k, none⟩ = some (.int .i64 z)) ∧ V.frozen? ⟨g', o' + k, none⟩ = false) := fun h0 => loose_ints hbd.k hfk hB (fun h => h) h0
            have HC : Hid (∀ V, Turned w.heap.size w4 V → V.cell? ⟨g, o + j * 10 + 6 + 2, none⟩ = some (.slice pa x.body.pn pc) ∧ V.cell? ⟨g, o + j * 10 + 6 + 3, none⟩ = some (.slice ka x.body.k.length kc) ∧ (∃ z, V.cell? ⟨g, o + j * 10, none⟩ = some (.int .i64 z)) ∧ V.frozen? ⟨g, o + j * 10, none⟩ = false) := by
              intro V hV
              have f8 := hc 8 _ rfl
              have f9 := hc 9 _ rfl
              have f0 := hc 0 _ rfl
              rw [← Nat.add_assoc] at f8 f9 f0
              refine ⟨?_, ?_, ?_, hV.free _ (hfz _)⟩
              · rcases hV.cells _ _ f8 with ⟨_, _, h, -⟩ | h
                · cases h
                · exact h
              · rcases hV.cells _ _ f9 with ⟨_, _, h, -⟩ | h
                · cases h
                · exact h
              · rcases hV.cells _ _ f0 with ⟨_, z', -, h⟩ | h
                · exact ⟨z', h⟩
                · exact ⟨_, h⟩
            clear hx hbg hfz hc e8 e9 hfp hfk hbd hB
            generalize x.body.pn = pn at *
            generalize x.body.k.length = kl at *
            go_wp2_with fail
            go_loopw [11] (fun i V => ∃ k : Nat, k ≤ pn ∧ i = .int .i64 k ∧ Turned w.heap.size w4 V) (fun i _ => pn - (intOf i).toNat)
            case atStart => exact ⟨0, by omega, rfl, HT.out⟩
            case round =>
              obtain ⟨k, hk, rfl, ht2⟩ := hrel
              obtain ⟨c8, c9, -, -⟩ := HC.out wr ht2
              have HT2 := Lib.hid ht2
              clear ht2
              by_cases hkp : k < pn
              · obtain ⟨gp, op, rfl, hbp, hpc⟩ := HP.out (by omega)
                obtain ⟨⟨z0, p0⟩, f0⟩ := hpc wr HT2.out (3 * k) (by omega)
                obtain ⟨⟨z1, p1⟩, f1⟩ := hpc wr HT2.out (3 * k + 1) (by omega)
                obtain ⟨⟨z2, p2⟩, f2⟩ := hpc wr HT2.out (3 * k + 2) (by omega)
                rw [Nat.mul_comm 3 k] at p0 p1 p2 f0 f1 f2
                rw [← Nat.add_assoc] at p1 p2 f1 f2
                have HB2 := Lib.hid (HT2.out.set3 hbp p0 p1 p2 z)
                clear hpc hbp
                go_wp2_with fail
                go_roundw
                case rel => exact ⟨k + 1, by omega, by go_num, HB2.out⟩
                case measure => simp [intOf]; omega
              · obtain rfl : pn = k := by omega
                clear HP
                go_wp2_with fail
                go_loopw [12] (fun i V => ∃ k : Nat, k ≤ kl ∧ i = .int .i64 k ∧ Turned w.heap.size w4 V) (fun i _ => kl - (intOf i).toNat)
                case atStart => exact ⟨0, by omega, rfl, HT2.out⟩
                case round =>
                  obtain ⟨k3, hk3, rfl, ht3⟩ := hrel
                  obtain ⟨c8', c9', ⟨zk, ck⟩, fk⟩ := HC.out wr ht3
                  have HT3 := Lib.hid ht3
                  clear ht3 c8 c9
                  by_cases hkl : k3 < kl
                  · obtain ⟨gk, ok, rfl, hbk, hkc⟩ := HK.out (by omega)
                    obtain ⟨⟨z0, p0⟩, f0⟩ := hkc wr HT3.out k3 hkl
                    have HB3 := Lib.hid (HT3.out.set (p := ⟨gk, ok + k3, none⟩) hbk p0 z)
                    clear hkc hbk ck fk
                    go_wp2_with fail
                    go_roundw
                    case rel => exact ⟨k3 + 1, by omega, by go_num, HB3.out⟩
                    case measure => simp [intOf]; omega
                  · obtain rfl : kl = k3 := by omega
                    clear HK
                    have HB5 := Lib.hid (HT3.out.set (p := ⟨g, o + j * 10, none⟩) HBG.out ck z)
                    go_wp2_with fail
                    go_roundw
                    case rel => exact ⟨j + 1, by omega, by go_num, HB5.out⟩
                    case measure => simp [intOf]; omega
          · obtain rfl : n = j := by omega
            have HBT := Lib.hid (HB4.out.trans HT.out.bel)
            clear HLS HT HT4
            go_wp2_with fail
            refine (HPA.out _ HBT.out).mono ?_
            rintro e w5 ⟨⟨v5, rfl, ho5⟩, hb5⟩
            obtain ⟨a5, c5, rfl, g51, g52, hs5⟩ := ho5.steps
            have HS5 := Lib.hid hs5
            have HB5 := Lib.hid (HBT.out.trans (hb5.mono HBT.out.size))
            clear hb5 ho5 hs5
            rw [HN.out] at g51 ⊢
            go_wp2_with fail
            refine (HPP.out _ _ _ HS5.out).mono ?_
            rintro e w6 ⟨a6, c6, rfl, g61, g62, hs6, hb6⟩
            have HB6 := Lib.hid (HB5.out.trans (hb6.mono HB5.out.size))
            have HS6 := Lib.hid hs6
            clear hs6 hb6
            go_wp2_with fail
            refine (HPL.out _ HB6.out).mono ?_
            rintro e w7 ⟨a7, c7, rfl, g71, g72, hs7, hb7⟩
            have HB7 := Lib.hid (HB6.out.trans (hb7.mono HB6.out.size))
            have HS67 := Lib.hid (HS6.out.below hb7)
            have HS7 := Lib.hid hs7
            clear hs7 hb7
            go_wp2_with fail
            refine (HSA.out _ _ _ _ _ HS67.out HS7.out).mono ?_
            rintro e w8 ⟨rfl, hb8⟩
            have HB8 := Lib.hid (HB7.out.trans (hb8.mono HB7.out.size))
            clear hb8
            go_wp2_with fail
            go_ret
            exact ⟨rfl, HB8.out⟩

end Go.Proofs.YtjcffbhgjmaicaaDoor
