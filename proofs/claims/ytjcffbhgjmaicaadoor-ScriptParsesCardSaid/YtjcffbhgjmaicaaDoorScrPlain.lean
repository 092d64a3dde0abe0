/-
  Layer 55 (script): steps as the document's (the law package's plain).
-/
import Derived.Test.YtjcffbhgjmaicaaDoorScrParseW
import Derived.Deep.RegionHeldLaw
namespace Go.Proofs.YtjcffbhgjmaicaaDoor
open Go.RowKit
open Script

theorem infoRStep : (Tryd.prog.info? 59).map (fun i => (i.zero, i.size, i.bytes)) = some (some (.agg #[.int .i64 0, .string ⟨#[]⟩, .int .i64 0, .int .i64 0, .int .i64 0, .int .i64 0, .int .i64 0, .slice none 0 0, .slice none 0 0, .slice none 0 0]), 10, 136) := by kernel_rfl

/-- The slice value v owns a row of the document's steps; their bodies lie in W. -/
def OwnR (W w : World) (base : Nat) (v : Value) (l : List Script.Step) : Prop :=
  ∃ css : List (Array Value), css.length = l.length ∧ w.ownsRow base 59 10 v l.length (css.flatMap Array.toList) ∧
    ∀ (i : Nat) (x : Script.Step) (cs : Array Value), l[i]? = some x → css[i]? = some cs → StepV W x cs

theorem OwnR.none_ {W w : World} {base : Nat} : OwnR W w base (.slice none 0 0) [] := ⟨[], rfl, World.ownsRow_nil w base _ 10, fun i x cs h => by simp at h⟩

theorem OwnR.lt {W w : World} {base : Nat} {v : Value} {l : List Script.Step} (h : OwnR W w base v l) : ∀ k, v.ownBlock = some k → base ≤ k ∧ k < w.heap.size := by
  obtain ⟨css, -, ho, -⟩ := h
  exact World.ownsRow.lt ho

theorem OwnR.later {W w w' : World} {base : Nat} {v : Value} {l : List Script.Step} (h : OwnR W w base v l) (hb : Below w.heap.size w w') : OwnR W w' base v l := by
  obtain ⟨css, h1, h2, h3⟩ := h
  refine ⟨css, h1, ?_, h3⟩
  refine World.ownsRow.kept (row := none) h2 ⟨hb.os, hb.tape, hb.output, hb.size, fun k hk _ => hb.block k hk⟩ ?_
  cases hv : v.ownBlock <;> simp

theorem flat_cells : ∀ (css : List (Array Value)) (i j : Nat) (cs : Array Value) (u : Value), (∀ c ∈ css, c.size = 10) → css[i]? = some cs → cs[j]? = some u → (css.flatMap Array.toList)[i * 10 + j]? = some u
  | [], i, j, cs, u, _, h, _ => by simp at h
  | c :: css, 0, j, cs, u, hs, h, hu => by
    simp at h
    subst h
    have hj : j < c.size := (Array.getElem?_eq_some_iff.1 hu).1
    rw [List.flatMap_cons, List.getElem?_append_left (by simpa using by omega)]
    simpa using hu
  | c :: css, i + 1, j, cs, u, hs, h, hu => by
    have h10 := hs c (by simp)
    rw [List.flatMap_cons, List.getElem?_append_right (by simp; omega), Array.length_toList, h10, show (i + 1) * 10 + j - 10 = i * 10 + j from by omega]
    exact flat_cells css i j cs u (fun d hd => hs d (by simp [hd])) (by simpa using h) hu

/-- How a row of one's own reads. -/
theorem OwnR.steps {W w : World} {base : Nat} {v : Value} {l : List Script.Step} (h : OwnR W w base v l) (hb : Below W.heap.size W w) : ∃ a c, v = .slice a l.length c ∧ l.length ≤ c ∧ c ≤ maxLen ∧ StepsAt w a l := by
  obtain ⟨css, h1, h2, h3⟩ := h
  obtain ⟨a, c, rfl, g1, g2⟩ := ownsRow_form h2
  refine ⟨a, c, rfl, g1, g2, fun i s hi => ?_⟩
  have hil : i < css.length := by rw [h1]; exact (List.getElem?_eq_some_iff.1 hi).1
  have hc : css[i]? = some css[i] := List.getElem?_eq_getElem hil
  have hv := h3 i s _ hi hc
  have hall : ∀ d ∈ css, d.size = 10 := by
    intro d hd
    obtain ⟨k, hk⟩ := List.getElem?_of_mem hd
    have hkl : k < l.length := by rw [← h1]; exact (List.getElem?_eq_some_iff.1 hk).1
    exact (stepV_cells (h3 k _ d (List.getElem?_eq_getElem hkl) hk)).1
  have hr : Row w a (css.flatMap Array.toList) := Row.own h2
  have hpos : 0 < (css.flatMap Array.toList).length := by
    have hs := flat_cells css i 0 css[i] (css[i][0]'(by rw [hall _ (List.getElem_mem hil)]; omega)) hall hc (Array.getElem?_eq_getElem _)
    have := (List.getElem?_eq_some_iff.1 hs).1
    omega
  obtain ⟨b, off, rfl, hcell⟩ := hr hpos
  exact ⟨b, off, _, rfl, hv.below hb, fun j u hj => hcell _ _ (flat_cells css i j _ u hall hc hj)⟩

theorem step_appendR {w : World} {ops : Array Oper} {o : Oper} {a : Act} {K : Act → World → Prop} {Q : Exit → Act → World → Prop} {E : Prop} (hw : Region.wanted o (yielded ops a.tmps) = true) (s x : Operand)
    (ho : o.op = .call { callee := .builtin .append, args := #[s, x], argTypes := #[27, 27] })
    {W : World} {base : Nat} {v : Value} {l : List Script.Step} (hs : a.eval s = v) (hown : OwnR W w base v l)
    {A : Option Addr} {c : Nat} {u : Script.Step} {cs : Array Value} (hx : a.eval x = .slice A 1 c) (ht : Row w A cs.toList) (hu : StepV W u cs)
    (hlen : l.length ≤ 1000000000) (hbase : base ≤ w.heap.size)
    (h : ∀ v' w', OwnR W w' base v' (l ++ [u]) → w.grownBy w' v.ownBlock → K (a.put o.dst v') w') : if Region.wanted o (yielded ops a.tmps) = true then Oper.wp Tryd.prog o a w K Q else E := by
  rw [if_pos hw]
  obtain ⟨css, h1, h2, h3⟩ := hown
  obtain ⟨hcs, hone⟩ := stepV_cells hu
  obtain ⟨i0, hi0, hz0, hz1, hz2⟩ := info_parts infoRStep
  refine wp_append_row w s x _ ho base 59 i0 _ 10 136 Tryd.underlying27 hi0 hz0 hz1 hz2 rfl (by omega) v l.length (css.flatMap Array.toList) hs h2 A 1 c cs.toList hx (by simpa using hcs) ht hone (by simp only [maxLen]; omega) (by omega) hbase ?_
  intro v' w' g1 g2 _
  refine h v' w' ⟨css ++ [cs], by simp [h1], by simpa using g1, ?_⟩ g2
  intro i y ds hy hd
  by_cases hi : i < l.length
  · rw [List.getElem?_append_left hi] at hy
    rw [List.getElem?_append_left (by omega)] at hd
    exact h3 i y ds hy hd
  · rw [List.getElem?_append_right (by omega)] at hy
    rw [List.getElem?_append_right (by omega), h1] at hd
    have hi2 : i - l.length = 0 := by
      have := (List.getElem?_eq_some_iff.1 hy).1
      simp at this; omega
    rw [hi2] at hy hd
    simp at hy hd
    subst hy hd
    exact hu

set_option maxRecDepth 100000 in
set_option maxHeartbeats 4000000 in
theorem plain_any (a : Option Addr) (n c : Nat) (l : List Script.Step) (w : World) (hn : l.length = n) (hn2 : n ≤ 1000000) (h : StepsAt w a l) :
    Calls Tryd.prog 15 #[.slice a n c] w fun e w' => ∃ a' c', e = .returned (.slice a' n c') ∧ n ≤ c' ∧ c' ≤ maxLen ∧ StepsAt w' a' l ∧ Below w.heap.size w w' := by
  have HX := Lib.hid h
  have HN := Lib.hid hn
  clear h hn
  go_enter Tryd.func15, Tryd.ntmps15
  go_wp2_with fail
  go_loopw [3, 4] (fun v i wr => ∃ j : Nat, j ≤ n ∧ i = .int .i64 j ∧ OwnR w wr w.heap.size v (l.take j) ∧ Below w.heap.size w wr) (fun _ i _ => n - (intOf i).toNat)
  case atStart => exact ⟨0, by omega, rfl, OwnR.none_, Below.refl _ _⟩
  case round =>
    obtain ⟨j, hj, rfl, ho, hb⟩ := hrel
    have HO := Lib.hid ho
    have HB := Lib.hid hb
    clear ho hb
    by_cases hjn : j < n
    · obtain ⟨u, hu⟩ : ∃ u, l[j]? = some u := ⟨l[j]'(by rw [HN.out]; exact hjn), List.getElem?_eq_getElem _⟩
      obtain ⟨g, o, cs, rfl, hv, hc⟩ := HX.out j u hu
      have HU := Lib.hid hu
      have HV := Lib.hid hv
      obtain ⟨nm, n0, n1, n2, n3, ta, pa, ka, tc, pc, kc, -, -, rfl, -⟩ := hv
      unfold stepCells at HV hc
      have HCC := Lib.hid (fun (V : World) (hV : Below w.heap.size w V) (i : Nat) (y : Value) (hy : #[Value.int .i64 u.kind, .string nm, .int .i64 n0, .int .i64 n1, .int .i64 n2, .int .i64 n3, .int .i64 u.body.sn, .slice ta u.body.tn tc, .slice pa u.body.pn pc, .slice ka u.body.k.length kc][i]? = some y) => (hV.cell (p := ⟨g, o + (j * 10 + i), none⟩) (lt_of_cell (hc i y hy))).trans (hc i y hy))
      clear hc hu
      have HS : Hid (∀ V : World, Below w.heap.size w V → (V.cell? ⟨g, o + j * 10, none⟩ = some (.int .i64 u.kind) ∧ V.cell? ⟨g, o + j * 10 + 1, none⟩ = some (.string nm) ∧ V.cell? ⟨g, o + j * 10 + 2, none⟩ = some (.int .i64 n0) ∧ V.cell? ⟨g, o + j * 10 + 3, none⟩ = some (.int .i64 n1) ∧ V.cell? ⟨g, o + j * 10 + 4, none⟩ = some (.int .i64 n2) ∧ V.cell? ⟨g, o + j * 10 + 5, none⟩ = some (.int .i64 n3) ∧ V.cell? ⟨g, o + j * 10 + 6, none⟩ = some (.int .i64 u.body.sn) ∧ V.cell? ⟨g, o + j * 10 + 7, none⟩ = some (.slice ta u.body.tn tc) ∧ V.cell? ⟨g, o + j * 10 + 8, none⟩ = some (.slice pa u.body.pn pc) ∧ V.cell? ⟨g, o + j * 10 + 9, none⟩ = some (.slice ka u.body.k.length kc))) := by
        intro V hV
        have g0 := HCC.out _ hV 0 _ rfl
        have g1 := HCC.out _ hV 1 _ rfl
        have g2 := HCC.out _ hV 2 _ rfl
        have g3 := HCC.out _ hV 3 _ rfl
        have g4 := HCC.out _ hV 4 _ rfl
        have g5 := HCC.out _ hV 5 _ rfl
        have g6 := HCC.out _ hV 6 _ rfl
        have g7 := HCC.out _ hV 7 _ rfl
        have g8 := HCC.out _ hV 8 _ rfl
        have g9 := HCC.out _ hV 9 _ rfl
        rw [Nat.add_zero] at g0
        simp only [← Nat.add_assoc] at g1 g2 g3 g4 g5 g6 g7 g8 g9
        exact ⟨g0, g1, g2, g3, g4, g5, g6, g7, g8, g9⟩
      have HBD := Lib.hid HB.out.drew
      have HBA := Lib.hid (HB.out.alloc HB.out.size (.cells #[.int .i64 u.kind, .string nm, .int .i64 n0, .int .i64 n1, .int .i64 n2, .int .i64 n3, .int .i64 u.body.sn, .slice ta u.body.tn tc, .slice pa u.body.pn pc, .slice ka u.body.k.length kc] 59)).drew
      have HOA := Lib.hid (HO.out.later ((Below.refl wr.heap.size wr).alloc (Nat.le_refl _) (.cells #[.int .i64 u.kind, .string nm, .int .i64 n0, .int .i64 n1, .int .i64 n2, .int .i64 n3, .int .i64 u.body.sn, .slice ta u.body.tn tc, .slice pa u.body.pn pc, .slice ka u.body.k.length kc] 59)).drew)
      have HLJ : Hid ((l.take j).length ≤ 1000000000) := by show _ ≤ _; rw [List.length_take]; omega
      have hrow := row_new wr 59 #[.int .i64 u.kind, .string nm, .int .i64 n0, .int .i64 n1, .int .i64 n2, .int .i64 n3, .int .i64 u.body.sn, .slice ta u.body.tn tc, .slice pa u.body.pn pc, .slice ka u.body.k.length kc]
      have HROW : Hid (Row (wr.alloc (.cells #[.int .i64 u.kind, .string nm, .int .i64 n0, .int .i64 n1, .int .i64 n2, .int .i64 n3, .int .i64 u.body.sn, .slice ta u.body.tn tc, .slice pa u.body.pn pc, .slice ka u.body.k.length kc] 59)).drew (some ⟨wr.heap.size, 0, none⟩) (#[.int .i64 u.kind, .string nm, .int .i64 n0, .int .i64 n1, .int .i64 n2, .int .i64 n3, .int .i64 u.body.sn, .slice ta u.body.tn tc, .slice pa u.body.pn pc, .slice ka u.body.k.length kc] : Array Value).toList) := hrow
      clear hrow
      go_wp2_with fail
      go_region_held_law (fun V => V.cell? ⟨g, o + j * 10, none⟩ = some (.int .i64 u.kind) ∧ V.cell? ⟨g, o + j * 10 + 1, none⟩ = some (.string nm) ∧ V.cell? ⟨g, o + j * 10 + 2, none⟩ = some (.int .i64 n0) ∧ V.cell? ⟨g, o + j * 10 + 3, none⟩ = some (.int .i64 n1) ∧ V.cell? ⟨g, o + j * 10 + 4, none⟩ = some (.int .i64 n2) ∧ V.cell? ⟨g, o + j * 10 + 5, none⟩ = some (.int .i64 n3) ∧ V.cell? ⟨g, o + j * 10 + 6, none⟩ = some (.int .i64 u.body.sn) ∧ V.cell? ⟨g, o + j * 10 + 7, none⟩ = some (.slice ta u.body.tn tc) ∧ V.cell? ⟨g, o + j * 10 + 8, none⟩ = some (.slice pa u.body.pn pc) ∧ V.cell? ⟨g, o + j * 10 + 9, none⟩ = some (.slice ka u.body.k.length kc))
        (first | (with_reducible exact HS.out _ HBD.out) | (with_reducible exact HS.out _ HBA.out) | (with_reducible exact HS.out _ HB6.out) | fail)
        ((refine step_appendR (u := u) (cs := #[.int .i64 u.kind, .string nm, .int .i64 n0, .int .i64 n1, .int .i64 n2, .int .i64 n3, .int .i64 u.body.sn, .slice ta u.body.tn tc, .slice pa u.body.pn pc, .slice ka u.body.k.length kc]) (by rfl) _ _ (by rfl) (by rfl) HOA.out (by rfl) HROW.out HV.out HLJ.out HBA.out.size ?_
          intro v6 w6 ho6 hg6
          have HB6 := Lib.hid (HBA.out.grown hg6 HBA.out.size (fun k hk => (HOA.out.lt k hk).1))
          have HO6 := Lib.hid ho6
          clear ho6))
      all_goals
        go_wp2_with fail
        go_roundw
        case rel =>
          exact ⟨j + 1, by omega, by go_num, by rw [take_snoc HU.out]; exact HO6.out, HB6.out⟩
        case measure => simp [intOf]; omega
    · obtain rfl : n = j := by omega
      have ho := HO.out
      rw [List.take_of_length_le (by rw [HN.out]; exact Nat.le_refl _)] at ho
      obtain ⟨a', c', rfl, h1, h2, h3⟩ := ho.steps HB.out
      have H3 := Lib.hid h3
      rw [HN.out] at h1
      rw [HN.out]
      clear ho h3 HO
      go_wp2_with fail
      go_ret
      exact ⟨a', c', rfl, h1, h2, H3.out, HB.out⟩

end Go.Proofs.YtjcffbhgjmaicaaDoor
