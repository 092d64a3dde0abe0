/-
  Layer 55 (script): ScriptJoins.
-/
import Derived.Test.YtjcffbhgjmaicaaDoorScrLawA
import Derived.Test.YtjcffbhgjmaicaaDoorScrLawP
import Derived.Laws.Concat
namespace Go.Proofs.YtjcffbhgjmaicaaDoor
open Go.RowKit
open Script

/-- The cells of steps in a row. -/
theorem row_of_steps {w : World} {a : Option Addr} {l : List Script.Step} (h : StepsAt w a l) :
    ∃ css : List (Array Value), css.length = l.length ∧ Row w a (css.flatMap Array.toList) ∧ (∀ (i : Nat) (x : Script.Step) (cs : Array Value), l[i]? = some x → css[i]? = some cs → StepV w x cs) := by
  have each : ∀ i, i < l.length → ∃ cs : Array Value, ∀ x, l[i]? = some x → ∃ g o, a = some ⟨g, o, none⟩ ∧ StepV w x cs ∧ ∀ j u, cs[j]? = some u → w.cell? ⟨g, o + (i * 10 + j), none⟩ = some u := by
    intro i hi
    obtain ⟨g, o, cs, e, hv, hc⟩ := h i l[i] (List.getElem?_eq_getElem hi)
    refine ⟨cs, fun x hx => ?_⟩
    rw [List.getElem?_eq_getElem hi] at hx
    injection hx with hx
    subst hx
    exact ⟨g, o, e, hv, hc⟩
  obtain ⟨q, hq⟩ := Go.Deep.choose_lt each
  have hget : ∀ (i : Nat) (cs : Array Value), ((List.range l.length).map q)[i]? = some cs → i < l.length ∧ cs = q i := by
    intro i cs hi
    rw [List.getElem?_map] at hi
    obtain ⟨r, hri, rfl⟩ := Option.map_eq_some_iff.1 hi
    obtain ⟨hil, e⟩ := List.getElem?_eq_some_iff.1 hri
    simp at hil e
    subst e
    exact ⟨hil, rfl⟩
  have h10 : ∀ d ∈ (List.range l.length).map q, d.size = 10 := by
    intro d hd
    obtain ⟨i, hi⟩ := List.getElem?_of_mem hd
    obtain ⟨hil, rfl⟩ := hget i d hi
    obtain ⟨g, o, -, hv, -⟩ := hq i hil l[i] (List.getElem?_eq_getElem hil)
    exact (stepV_cells hv).1
  refine ⟨(List.range l.length).map q, by simp, ?_, ?_⟩
  · intro hpos
    have hl0 : 0 < l.length := by
      rcases Nat.eq_zero_or_pos l.length with h0 | h0
      · rw [h0] at hpos; simp at hpos
      · exact h0
    obtain ⟨g, o, ea, -, -⟩ := hq 0 hl0 l[0] (List.getElem?_eq_getElem hl0)
    refine ⟨g, o, ea, fun j u hj => ?_⟩
    have hjl := (List.getElem?_eq_some_iff.1 hj).1
    have hlen : ((List.range l.length).map q |>.flatMap Array.toList).length = l.length * 10 := by
      have : ∀ (css : List (Array Value)), (∀ d ∈ css, d.size = 10) → (css.flatMap Array.toList).length = css.length * 10 := by
        intro css
        induction css with
        | nil => intro _; rfl
        | cons c css ih =>
          intro hc
          rw [List.flatMap_cons, List.length_append, ih fun d hd => hc d (by simp [hd]), Array.length_toList, hc c (by simp), List.length_cons]
          omega
      rw [this _ h10]; simp
    have hi : j / 10 < l.length := by rw [hlen] at hjl; omega
    obtain ⟨g', o', ea', hv, hc⟩ := hq (j / 10) hi l[j / 10] (List.getElem?_eq_getElem hi)
    rw [ea] at ea'
    injection ea' with ea'
    injection ea' with e3 e4
    subst e3 e4
    have h10' := (stepV_cells hv).1
    have hu : (q (j / 10))[j % 10]? = some ((q (j / 10))[j % 10]'(by omega)) := Array.getElem?_eq_getElem _
    have hf := flat_cells ((List.range l.length).map q) (j / 10) (j % 10) (q (j / 10)) _ h10 (by rw [List.getElem?_map, List.getElem?_range hi]; rfl) hu
    rw [show j / 10 * 10 + j % 10 = j from by omega] at hf
    rw [hf] at hj
    injection hj with hj
    have := hc (j % 10) _ hu
    rw [show j / 10 * 10 + j % 10 = j from by omega, hj] at this
    exact this
  · intro i x cs hx hcs
    obtain ⟨hil, rfl⟩ := hget i cs hcs
    obtain ⟨g, o, -, hv, -⟩ := hq i hil x hx
    exact hv

theorem flat_one {w : World} {l : List Script.Step} {css : List (Array Value)} (hl : css.length = l.length) (h : ∀ (i : Nat) (x : Script.Step) (cs : Array Value), l[i]? = some x → css[i]? = some cs → StepV w x cs) :
    (css.flatMap Array.toList).length = l.length * 10 ∧ ∀ u ∈ css.flatMap Array.toList, u.oneCell' = true := by
  have hall : ∀ d ∈ css, d.size = 10 ∧ ∀ u ∈ d.toList, u.oneCell' = true := by
    intro d hd
    obtain ⟨i, hi⟩ := List.getElem?_of_mem hd
    have hil : i < l.length := by rw [← hl]; exact (List.getElem?_eq_some_iff.1 hi).1
    exact stepV_cells (h i _ d (List.getElem?_eq_getElem hil) hi)
  constructor
  · rw [← hl]
    clear h hl
    induction css with
    | nil => rfl
    | cons c css ih =>
      rw [List.flatMap_cons, List.length_append, ih fun d hd => hall d (by simp [hd]), Array.length_toList, (hall c (by simp)).1, List.length_cons]
      omega
  · intro u hu
    obtain ⟨d, hd, hud⟩ := List.mem_flatMap.1 hu
    exact (hall d hd).2 u hud

/-- The slice value v owns a row of steps; their bodies lie in W. -/
def OwnP (W w : World) (base : Nat) (v : Value) (l : List Script.Step) : Prop :=
  ∃ css : List (Array Value), css.length = l.length ∧ w.ownsRow base 51 10 v l.length (css.flatMap Array.toList) ∧
    ∀ (i : Nat) (x : Script.Step) (cs : Array Value), l[i]? = some x → css[i]? = some cs → StepV W x cs

theorem OwnP.lt {W w : World} {base : Nat} {v : Value} {l : List Script.Step} (h : OwnP W w base v l) : ∀ k, v.ownBlock = some k → base ≤ k ∧ k < w.heap.size := by
  obtain ⟨css, -, ho, -⟩ := h
  exact World.ownsRow.lt ho

theorem OwnP.steps {W w : World} {base : Nat} {v : Value} {l : List Script.Step} (h : OwnP W w base v l) (hb : Below W.heap.size W w) : ∃ a c, v = .slice a l.length c ∧ l.length ≤ c ∧ c ≤ maxLen ∧ StepsAt w a l := by
  obtain ⟨css, h1, h2, h3⟩ := h
  obtain ⟨a, c, rfl, g1, g2⟩ := ownsRow_form h2
  refine ⟨a, c, rfl, g1, g2, fun i s hi => ?_⟩
  have hil : i < css.length := by rw [h1]; exact (List.getElem?_eq_some_iff.1 hi).1
  have hc : css[i]? = some css[i] := List.getElem?_eq_getElem hil
  have hv := h3 i s _ hi hc
  have hall : ∀ d ∈ css, d.size = 10 := by
    intro d hd
    obtain ⟨k, hk⟩ := List.getElem?_of_mem hd
    have hkl : k < l.length := by rw [← h1]; exact (List.getElem?_eq_some_iff.1 hk).1
    exact (stepV_cells (h3 k _ d (List.getElem?_eq_getElem hkl) hk)).1
  have hr : Row w a (css.flatMap Array.toList) := Row.own h2
  have hpos : 0 < (css.flatMap Array.toList).length := by
    have hs := flat_cells css i 0 css[i] (css[i][0]'(by rw [hall _ (List.getElem_mem hil)]; omega)) hall hc (Array.getElem?_eq_getElem _)
    have := (List.getElem?_eq_some_iff.1 hs).1
    omega
  obtain ⟨b, off, rfl, hcell⟩ := hr hpos
  exact ⟨b, off, _, rfl, hv.below hb, fun j u hj => hcell _ _ (flat_cells css i j _ u hall hc hj)⟩

/-- 'append(v, x..)' of steps. -/
theorem wpList_appendP {w : World} {ops : Array Oper} {rest : List Oper} {o : Oper} {a : Act} {Q : Exit → Act → World → Prop} (hw : Region.wanted o (yielded ops a.tmps) = true) (s x : Operand)
    (ho : o.op = .call { callee := .builtin .append, args := #[s, x], argTypes := #[23, 23] })
    {W : World} {base : Nat} {v : Value} {l : List Script.Step} (hs : a.eval s = v) (hown : OwnP W w base v l)
    {A : Option Addr} {n c : Nat} {m : List Script.Step} (hx : a.eval x = .slice A n c) (hn : m.length = n) (hm : StepsAt W A m)
    (hlen : l.length + m.length ≤ 1000000) (hbase : base ≤ w.heap.size) (hWw : Below W.heap.size W w)
    (h : ∀ v' w', OwnP W w' base v' (l ++ m) → w.grownBy w' v.ownBlock → wpList Tryd.prog ops Q rest (a.put o.dst v') w') : wpList Tryd.prog ops Q (o :: rest) a w := by
  obtain ⟨css, h1, h2, h3⟩ := hown
  obtain ⟨cms, k1, k2, k3⟩ := row_of_steps hm
  obtain ⟨f1, f2⟩ := flat_one k1 k3
  have k2' : Row w A (cms.flatMap Array.toList) := by
    intro hpos
    obtain ⟨b, off, e, hc⟩ := k2 hpos
    exact ⟨b, off, e, fun j u hj => (hWw.cell (p := ⟨b, off + j, none⟩) (lt_of_cell (hc j u hj))).trans (hc j u hj)⟩
  obtain ⟨i0, hi0, hz0, hz1, hz2⟩ := info_parts infoStep
  subst hn
  refine BigFrame.wpList_want hw fun K hK => ?_
  refine wp_append_row w s x _ ho base 51 i0 _ 10 136 Tryd.underlying23 hi0 hz0 hz1 hz2 rfl (by omega) v l.length (css.flatMap Array.toList) hs h2 A m.length c (cms.flatMap Array.toList) hx f1 k2' f2 (by simp only [maxLen]; omega) (by omega) hbase ?_
  intro v' w' g1 g2 _
  refine hK _ _ (h v' w' ⟨css ++ cms, by simp [h1, k1], by rw [List.length_append, List.flatMap_append]; exact g1, ?_⟩ g2)
  intro i y ds hy hd
  by_cases hi : i < l.length
  · rw [List.getElem?_append_left hi] at hy
    rw [List.getElem?_append_left (by omega)] at hd
    exact h3 i y ds hy hd
  · rw [List.getElem?_append_right (by omega)] at hy
    rw [List.getElem?_append_right (by omega), h1] at hd
    exact k3 _ y ds hy hd

set_option maxRecDepth 100000 in
set_option maxHeartbeats 4000000 in
theorem scriptJoins_any (a : Option Addr) (n c : Nat) (l : List Script.Step) (sl : List UInt8) (w : World) (hn : l.length = n) (hn2 : n ≤ maxLen) (hs : sl.length ≤ maxLen) (h : StepsAt0 w a l) (hrd : Ready w) :
    Calls Tryd.prog 7 #[.slice a n c, .string ⟨⟨sl⟩⟩] w fun e w' => e = .returned (.bool true) ∧ Below w.heap.size w w' := by
  have HAW := Lib.hid (awake_any w hrd)
  have HRD := Lib.hid (fun (V : World) (hV : Below w.heap.size w V) => hrd.below hV)
  have HGR := Lib.hid (fun (V : World) (hV : Below w.heap.size w V) => great_any a n c l V hn hn2 (h.below hV))
  unfold maxLen at hn2 hs
  obtain ⟨q, hq⟩ : ∃ q, q = sl.length := ⟨_, rfl⟩
  have hsz : (ByteArray.mk ⟨sl⟩).size = q := hq.symm
  rw [← hq] at hs
  obtain ⟨S, hS⟩ : ∃ S, S = ByteArray.mk ⟨sl⟩ := ⟨_, rfl⟩
  have HQ := Lib.hid hq
  have HS := Lib.hid hS
  rw [← hS] at hsz ⊢
  clear hS hq
  by_cases hg : greatS l = true
  · simp only [hg, if_true] at HGR
    clear h hrd
    go_enter Tryd.func7, Tryd.ntmps7
    go_wp2_with fail
    refine HAW.out.mono ?_
    rintro e w1 ⟨rfl, hb1⟩
    have HB1 := Lib.hid hb1
    clear hb1
    go_wp2_with fail
    refine (HGR.out _ HB1.out).mono ?_
    rintro e w2 ⟨rfl, rfl⟩
    go_wp2_with fail
    go_ret
    exact ⟨rfl, HB1.out⟩
  · have hg' : greatS l = false := by simpa using hg
    have hst := stepsAt_of h hg'
    simp only [hg', Bool.false_eq_true, if_false] at HGR
    clear h hrd hg
    by_cases h60 : 60 < n
    · clear hst
      go_enter Tryd.func7, Tryd.ntmps7
      go_wp2_with fail
      refine HAW.out.mono ?_
      rintro e w1 ⟨rfl, hb1⟩
      have HB1 := Lib.hid hb1
      clear hb1
      go_wp2_with fail
      refine (HGR.out _ HB1.out).mono ?_
      rintro e w2 ⟨rfl, rfl⟩
      go_wp2_with fail
      go_ret
      exact ⟨rfl, HB1.out⟩
    · have hn60 : n ≤ 60 := by omega
      clear h60 hn2
      by_cases h1000 : 1000 < q
      · clear hst
        go_enter Tryd.func7, Tryd.ntmps7
        go_wp2_with fail
        refine HAW.out.mono ?_
        rintro e w1 ⟨rfl, hb1⟩
        have HB1 := Lib.hid hb1
        clear hb1
        go_wp2_with fail
        refine (HGR.out _ HB1.out).mono ?_
        rintro e w2 ⟨rfl, rfl⟩
        go_wp2_with fail
        go_ret
        exact ⟨rfl, HB1.out⟩
      · have hq1000 : q ≤ 1000 := by omega
        clear h1000 hs
        have HTX := Lib.hid (fun (V : World) (hV : Below w.heap.size w V) => text_any a n c l V hn (by omega) (hst.below hV) (HRD.out V hV))
        have HPA := Lib.hid (fun (V : World) (hV : Below w.heap.size w V) => parse_any S V (by rw [hsz]; omega) (HRD.out V hV))
        have hSd : S.data.toList = sl := by rw [HS.out]
        rw [hSd] at HPA
        unfold ParseRes at HPA
        cases hra : rightAll l with
        | false =>
          have e1 : textOf l = [] := by unfold textOf; rw [hra]; rfl
          have e2 : textErr l = 3 := by unfold textErr; rw [hra]; rfl
          rw [e1, e2] at HTX
          clear e1 e2 hra hst hg' hSd
          cases hpo : Script.parseOf sl with
          | bad k er =>
            simp only [hpo] at HPA
            clear hpo
            go_enter Tryd.func7, Tryd.ntmps7
            go_wp2_with fail
            refine HAW.out.mono ?_
            rintro e w1 ⟨rfl, hb1⟩
            have HB1 := Lib.hid hb1
            clear hb1
            go_wp2_with fail
            refine (HGR.out _ HB1.out).mono ?_
            rintro e w2 ⟨rfl, rfl⟩
            go_wp2_with fail
            refine (HTX.out _ HB1.out).mono ?_
            rintro e w3 ⟨rfl, hb3⟩
            have HB3 := Lib.hid (HB1.out.trans (hb3.mono HB1.out.size))
            clear hb3
            go_wp2_with fail
            refine (HPA.out _ HB3.out).mono ?_
            rintro e w4 ⟨rfl, hb4⟩
            have HB4 := Lib.hid (HB3.out.trans (hb4.mono HB3.out.size))
            clear hb4
            go_wp2_with fail
            go_ret
            exact ⟨rfl, HB4.out⟩
          | ok ms =>
            simp only [hpo] at HPA
            clear hpo
            obtain ⟨m, hm⟩ : ∃ m, ms.length = m := ⟨_, rfl⟩
            have HM := Lib.hid hm
            clear hm
            go_enter Tryd.func7, Tryd.ntmps7
            go_wp2_with fail
            refine HAW.out.mono ?_
            rintro e w1 ⟨rfl, hb1⟩
            have HB1 := Lib.hid hb1
            clear hb1
            go_wp2_with fail
            refine (HGR.out _ HB1.out).mono ?_
            rintro e w2 ⟨rfl, rfl⟩
            go_wp2_with fail
            refine (HTX.out _ HB1.out).mono ?_
            rintro e w3 ⟨rfl, hb3⟩
            have HB3 := Lib.hid (HB1.out.trans (hb3.mono HB1.out.size))
            clear hb3
            go_wp2_with fail
            refine (HPA.out _ HB3.out).mono ?_
            rintro e w4 ⟨⟨v4, rfl, ho4⟩, hb4⟩
            obtain ⟨a4, c4, rfl, g41, g42, hs4⟩ := ho4.steps
            have HS4 := Lib.hid hs4
            have HB4 := Lib.hid (HB3.out.trans (hb4.mono HB3.out.size))
            clear hb4 ho4 hs4
            rw [HM.out] at g41 ⊢
            go_wp2_with fail
            go_ret
            exact ⟨rfl, HB4.out⟩
        | true =>
          obtain ⟨e1, e2, e3, e4, e5⟩ := right_text hst hg' hra
          obtain ⟨-, hall⟩ := rightAll_yes hra
          have hwr : ∀ x ∈ l, Script.Wf x ∧ Script.right x = true := fun x hx => ⟨stepsAt_wf hst x hx, hall x hx⟩
          have HPJ := Lib.hid (Script.parse_join hwr (by omega) sl)
          have e6 : (Script.text l).length ≤ 210660 := by have := text_short hwr (greatS_no hg').2; omega
          rw [e1, e2] at HTX
          generalize Script.text l = T at *
          have hadd : ∀ V : World, (Op.stringOp .add ⟨T.toArray⟩ S).run Tryd.prog V = .ok (.string ⟨(T ++ sl).toArray⟩) V := by
            rw [HS.out]
            exact fun V => run_string_add_lists _ T sl (by omega) (by rw [← HQ.out]; omega)
          have HPB := Lib.hid (fun (V : World) (hV : Below w.heap.size w V) => parse_any ⟨(T ++ sl).toArray⟩ V (by show (T ++ sl).toArray.size ≤ _; rw [List.size_toArray, List.length_append, ← HQ.out]; omega) (HRD.out V hV))
          rw [show (ByteArray.mk (T ++ sl).toArray).data.toList = T ++ sl from rfl] at HPB
          unfold ParseRes at HPB
          clear e1 e2 e3 e4 hra hg' hSd hall hwr
          cases hpo : Script.parseOf sl with
          | bad k er =>
            obtain ⟨hk1, her⟩ := bad_of hpo
            simp only [hpo] at HPA HPJ
            have i1 : ((er : Int) == 0) = false := by rw [beq_eq_false_iff_ne]; omega
            clear hpo hst
            by_cases hk60 : 60 < k
            · clear HPB HPJ hadd
              go_enter Tryd.func7, Tryd.ntmps7
              go_wp2_with fail
              refine HAW.out.mono ?_
              rintro e w1 ⟨rfl, hb1⟩
              have HB1 := Lib.hid hb1
              clear hb1
              go_wp2_with fail
              refine (HGR.out _ HB1.out).mono ?_
              rintro e w2 ⟨rfl, rfl⟩
              go_wp2_with fail
              refine (HTX.out _ HB1.out).mono ?_
              rintro e w3 ⟨rfl, hb3⟩
              have HB3 := Lib.hid (HB1.out.trans (hb3.mono HB1.out.size))
              clear hb3
              go_wp2_with fail
              refine (HPA.out _ HB3.out).mono ?_
              rintro e w4 ⟨rfl, hb4⟩
              have HB4 := Lib.hid (HB3.out.trans (hb4.mono HB3.out.size))
              clear hb4
              go_wp2_with fail
              go_ret
              exact ⟨rfl, HB4.out⟩
            · have hk : k ≤ 60 := by omega
              have hj := HPJ.out (by simp only [Script.Read.far]; omega)
              simp only [hj, hn] at HPB
              clear hk60 HPJ hj
              go_enter Tryd.func7, Tryd.ntmps7
              go_wp2_with fail
              refine HAW.out.mono ?_
              rintro e w1 ⟨rfl, hb1⟩
              have HB1 := Lib.hid hb1
              clear hb1
              go_wp2_with fail
              refine (HGR.out _ HB1.out).mono ?_
              rintro e w2 ⟨rfl, rfl⟩
              go_wp2_with fail
              refine (HTX.out _ HB1.out).mono ?_
              rintro e w3 ⟨rfl, hb3⟩
              have HB3 := Lib.hid (HB1.out.trans (hb3.mono HB1.out.size))
              clear hb3
              go_wp2_with fail
              refine (HPA.out _ HB3.out).mono ?_
              rintro e w4 ⟨rfl, hb4⟩
              have HB4 := Lib.hid (HB3.out.trans (hb4.mono HB3.out.size))
              clear hb4
              go_wp2_with fail
              refine (HPB.out _ HB4.out).mono ?_
              rintro e w5 ⟨rfl, hb5⟩
              have HB5 := Lib.hid (HB4.out.trans (hb5.mono HB4.out.size))
              clear hb5
              go_wp2_with fail
              go_ret
              exact ⟨rfl, HB5.out⟩
          | ok ms =>
            simp only [hpo] at HPA HPJ
            clear hpo
            obtain ⟨m, hm⟩ : ∃ m, ms.length = m := ⟨_, rfl⟩
            have HM := Lib.hid hm
            by_cases hm60 : 60 < m
            · clear HPB HPJ hadd hst hm
              go_enter Tryd.func7, Tryd.ntmps7
              go_wp2_with fail
              refine HAW.out.mono ?_
              rintro e w1 ⟨rfl, hb1⟩
              have HB1 := Lib.hid hb1
              clear hb1
              go_wp2_with fail
              refine (HGR.out _ HB1.out).mono ?_
              rintro e w2 ⟨rfl, rfl⟩
              go_wp2_with fail
              refine (HTX.out _ HB1.out).mono ?_
              rintro e w3 ⟨rfl, hb3⟩
              have HB3 := Lib.hid (HB1.out.trans (hb3.mono HB1.out.size))
              clear hb3
              go_wp2_with fail
              refine (HPA.out _ HB3.out).mono ?_
              rintro e w4 ⟨⟨v4, rfl, ho4⟩, hb4⟩
              obtain ⟨a4, c4, rfl, g41, g42, hs4⟩ := ho4.steps
              have HS4 := Lib.hid hs4
              have HB4 := Lib.hid (HB3.out.trans (hb4.mono HB3.out.size))
              clear hb4 ho4 hs4
              rw [HM.out] at g41 ⊢
              go_wp2_with fail
              go_ret
              exact ⟨rfl, HB4.out⟩
            · have hm2 : m ≤ 60 := by omega
              have hj := HPJ.out (by simp only [Script.Read.far]; omega)
              simp only [hj] at HPB
              have HLM : Hid ((l ++ ms).length = n + m) := by show _ = _; rw [List.length_append, hn, hm]
              have HN := Lib.hid hn
              have HSL := Lib.hid (fun (V : World) (hV : Below w.heap.size w V) => hst.below hV)
              have HPP := Lib.hid (fun (V : World) (a' : Option Addr) (c' : Nat) (hV : StepsAt V a' (l ++ ms)) => plain_any a' (n + m) c' (l ++ ms) V HLM.out (by omega) hV)
              have HSA := Lib.hid (fun (V : World) (a' b' : Option Addr) (ca cb : Nat) (hA : StepsAt V a' (l ++ ms)) (hB : StepsAt V b' (l ++ ms)) => same_any a' b' (n + m) ca cb (l ++ ms) V HLM.out (by omega) hA hB)
              clear hm60 HPJ hj hst hm hn
              go_enter Tryd.func7, Tryd.ntmps7
              go_wp2_with fail
              refine HAW.out.mono ?_
              rintro e w1 ⟨rfl, hb1⟩
              have HB1 := Lib.hid hb1
              clear hb1
              go_wp2_with fail
              refine (HGR.out _ HB1.out).mono ?_
              rintro e w2 ⟨rfl, rfl⟩
              go_wp2_with fail
              refine (HTX.out _ HB1.out).mono ?_
              rintro e w3 ⟨rfl, hb3⟩
              have HB3 := Lib.hid (HB1.out.trans (hb3.mono HB1.out.size))
              clear hb3
              go_wp2_with fail
              refine (HPA.out _ HB3.out).mono ?_
              rintro e w4 ⟨⟨v4, rfl, ho4⟩, hb4⟩
              obtain ⟨a4, c4, rfl, g41, g42, hs4⟩ := ho4.steps
              have HS4 := Lib.hid hs4
              have HB4 := Lib.hid (HB3.out.trans (hb4.mono HB3.out.size))
              clear hb4 ho4 hs4
              rw [HM.out] at g41 ⊢
              go_wp2_with fail
              refine (HPB.out _ HB4.out).mono ?_
              rintro e w5 ⟨⟨v5, rfl, ho5⟩, hb5⟩
              obtain ⟨a5, c5, rfl, g51, g52, hs5⟩ := ho5.steps
              have HS5 := Lib.hid hs5
              have HB5 := Lib.hid (HB4.out.trans (hb5.mono HB4.out.size))
              have HS45 := Lib.hid (HS4.out.below hb5)
              clear hb5 ho5 hs5
              rw [HLM.out] at g51 ⊢
              go_wp2_with fail
              refine (HPP.out _ _ _ HS5.out).mono ?_
              rintro e w6 ⟨a6, c6, rfl, g61, g62, hs6, hb6⟩
              have HB6 := Lib.hid (HB5.out.trans (hb6.mono HB5.out.size))
              have HS46 := Lib.hid (HS45.out.below hb6)
              have HS6 := Lib.hid hs6
              clear hs6 hb6
              go_wp2_with (at_builtin; refine stop ?_)
              have HBA := Lib.hid ((Below.refl w6.heap.size w6).alloc (Nat.le_refl _) (.cells #[] 51))
              have HO0 : Hid (OwnP w6 (w6.alloc (.cells #[] 51)) w6.heap.size (.slice (some ⟨w6.heap.size, 0, none⟩) 0 0) []) :=
                ⟨[], rfl, World.ownsRow_lit (e := 51) (size := 10) w6 #[] 0 (Nat.le_refl _) (by decide) (by simp), fun i x cs hx => by simp at hx⟩
              refine unstop (wpList_appendP (by rfl) _ _ (by rfl) (by rfl) HO0.out (by rfl) HN.out (HSL.out _ HB6.out) (by rw [HN.out]; simp only [List.length_nil]; omega) HBA.out.size HBA.out ?_)
              intro v7 w7 ho7 hg7
              have HB7 := Lib.hid (HBA.out.grown hg7 HBA.out.size (fun k hk => (HO0.out.lt k hk).1))
              have HO7 := Lib.hid ho7
              clear ho7 hg7
              go_wp2_with (at_builtin; refine stop ?_)
              refine unstop (wpList_appendP (by rfl) _ _ (by rfl) (by rfl) HO7.out (by rfl) HM.out HS46.out (by rw [List.nil_append, HN.out, HM.out]; omega) HB7.out.size HB7.out ?_)
              intro v8 w8 ho8 hg8
              have HB8 := Lib.hid (HB7.out.grown hg8 HB7.out.size (fun k hk => (HO7.out.lt k hk).1))
              rw [List.nil_append] at ho8
              obtain ⟨a8, c8, rfl, g81, g82, hs8⟩ := ho8.steps HB8.out
              have HS8 := Lib.hid hs8
              have HS68 := Lib.hid (HS6.out.below HB8.out)
              have HB8' := Lib.hid (HB6.out.trans (HB8.out.mono HB6.out.size))
              clear ho8 hg8 hs8
              rw [HLM.out] at g81 ⊢
              go_wp2_with fail
              refine (HPP.out _ _ _ HS8.out).mono ?_
              rintro e w9 ⟨a9, c9, rfl, g91, g92, hs9, hb9⟩
              have HB9 := Lib.hid (HB8'.out.trans (hb9.mono HB8'.out.size))
              have HS69 := Lib.hid (HS68.out.below hb9)
              have HS9 := Lib.hid hs9
              clear hs9 hb9
              go_wp2_with fail
              refine (HSA.out _ _ _ _ _ HS69.out HS9.out).mono ?_
              rintro e w10 ⟨rfl, hb10⟩
              have HB10 := Lib.hid (HB9.out.trans (hb10.mono HB9.out.size))
              clear hb10
              go_wp2_with fail
              go_ret
              exact ⟨rfl, HB10.out⟩

end Go.Proofs.YtjcffbhgjmaicaaDoor
