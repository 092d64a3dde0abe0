/-
  Layer 55 (script), the document's answer: Parse.
-/
import Derived.Test.YtjcffbhgjmaicaaDoorScrRefF
import Derived.Test.YtjcffbhgjmaicaaDoorScrAwake
namespace Go.Proofs.YtjcffbhgjmaicaaDoor
open Go.RowKit
open Script
set_option linter.unusedVariables false

/-- The slice value v owns a row of the document's steps; their bodies' rows lie elsewhere. -/
def OwnQ (w : World) (base : Nat) (v : Value) (l : List Script.Step) : Prop :=
  ∃ css : List (Array Value), css.length = l.length ∧ w.ownsRow base 59 10 v l.length (css.flatMap Array.toList) ∧
    ∀ (i : Nat) (x : Script.Step) (cs : Array Value), l[i]? = some x → css[i]? = some cs → ∀ V : World, (∀ k, base ≤ k → k < w.heap.size → v.ownBlock ≠ some k → V.heap[k]? = w.heap[k]?) → StepV V x cs

theorem OwnQ.none_ {w : World} {base : Nat} : OwnQ w base (.slice none 0 0) [] := ⟨[], rfl, World.ownsRow_nil w base _ 10, fun i x cs h => by simp at h⟩

theorem OwnQ.lt {w : World} {base : Nat} {v : Value} {l : List Script.Step} (h : OwnQ w base v l) : ∀ k, v.ownBlock = some k → base ≤ k ∧ k < w.heap.size := by
  obtain ⟨css, -, ho, -⟩ := h
  exact World.ownsRow.lt ho

theorem OwnQ.later {w w' : World} {base : Nat} {v : Value} {l : List Script.Step} (h : OwnQ w base v l) (hb : Below w.heap.size w w') : OwnQ w' base v l := by
  obtain ⟨css, h1, h2, h3⟩ := h
  refine ⟨css, h1, ?_, fun i x cs hx hc V hV => h3 i x cs hx hc V fun k hk hlt hne => (hV k hk (Nat.lt_of_lt_of_le hlt hb.size) hne).trans (hb.block k hlt)⟩
  refine World.ownsRow.kept (row := none) h2 ⟨hb.os, hb.tape, hb.output, hb.size, fun k hk _ => hb.block k hk⟩ ?_
  cases hv : v.ownBlock <;> simp

theorem OwnQ.steps {w : World} {base : Nat} {v : Value} {l : List Script.Step} (h : OwnQ w base v l) : ∃ a c, v = .slice a l.length c ∧ l.length ≤ c ∧ c ≤ maxLen ∧ StepsAt w a l := by
  obtain ⟨css, h1, h2, h3⟩ := h
  obtain ⟨a, c, rfl, g1, g2⟩ := ownsRow_form h2
  refine ⟨a, c, rfl, g1, g2, fun i s hi => ?_⟩
  have hil : i < css.length := by rw [h1]; exact (List.getElem?_eq_some_iff.1 hi).1
  have hc : css[i]? = some css[i] := List.getElem?_eq_getElem hil
  have hv : ∀ (k : Nat) (x : Script.Step) (d : Array Value), l[k]? = some x → css[k]? = some d → StepV w x d := fun k x d h h' => h3 k x d h h' w fun _ _ _ _ => rfl
  have hall : ∀ d ∈ css, d.size = 10 := by
    intro d hd
    obtain ⟨k, hk⟩ := List.getElem?_of_mem hd
    have hkl : k < l.length := by rw [← h1]; exact (List.getElem?_eq_some_iff.1 hk).1
    exact (stepV_cells (hv k _ d (List.getElem?_eq_getElem hkl) hk)).1
  have hr : Row w a (css.flatMap Array.toList) := Row.own h2
  have hpos : 0 < (css.flatMap Array.toList).length := by
    have hs := flat_cells css i 0 css[i] (css[i][0]'(by rw [hall _ (List.getElem_mem hil)]; omega)) hall hc (Array.getElem?_eq_getElem _)
    have := (List.getElem?_eq_some_iff.1 hs).1
    omega
  obtain ⟨b, off, rfl, hcell⟩ := hr hpos
  exact ⟨b, off, _, rfl, hv i s _ hi hc, fun j u hj => hcell _ _ (flat_cells css i j _ u hall hc hj)⟩

/-- A step that was read is laid behind the row. -/
theorem wpList_appendQ {w : World} {ops : Array Oper} {rest : List Oper} {o : Oper} {a : Act} {Q : Exit → Act → World → Prop} (hgd : o.guard = none) (s x : Operand)
    (ho : o.op = .call { callee := .builtin .append, args := #[s, x], argTypes := #[27, 27] })
    {base : Nat} {v : Value} {l : List Script.Step} (hs : a.eval s = v) (hown : OwnQ w base v l)
    {A : Option Addr} {c : Nat} {u : Script.Step} {cs : Array Value} (hx : a.eval x = .slice A 1 c) (ht : Row w A cs.toList)
    (hu : ∀ V : World, (∀ k, base ≤ k → k < w.heap.size → v.ownBlock ≠ some k → V.heap[k]? = w.heap[k]?) → StepV V u cs)
    (hlen : l.length ≤ 1000000) (hbase : base ≤ w.heap.size)
    (h : ∀ v' w', OwnQ w' base v' (l ++ [u]) → w.grownBy w' v.ownBlock → wpList Tryd.prog ops Q rest (a.put o.dst v') w') : wpList Tryd.prog ops Q (o :: rest) a w := by
  obtain ⟨css, h1, h2, h3⟩ := hown
  obtain ⟨hcs, hone⟩ := stepV_cells (hu w fun _ _ _ _ => rfl)
  obtain ⟨i0, hi0, hz0, hz1, hz2⟩ := info_parts infoRStep
  have hu' := hu
  refine wpList_append_row w hgd s x _ ho base 59 i0 _ 10 136 Tryd.underlying27 hi0 hz0 hz1 hz2 rfl (by omega) v l.length (css.flatMap Array.toList) hs h2 A 1 c cs.toList hx (by simpa using hcs) ht hone (by simp only [maxLen]; omega) (by omega) hbase ?_
  intro v' w' g1 g2 g3
  refine h v' w' ⟨css ++ [cs], by simp [h1], by simpa using g1, ?_⟩ g2
  intro i y ds hy hd V hV
  have hVw : ∀ k, base ≤ k → k < w.heap.size → v.ownBlock ≠ some k → V.heap[k]? = w.heap[k]? := by
    intro k hk hlt hne
    have hne' : v'.ownBlock ≠ some k := by
      rcases g3 with g3 | g3
      · rw [g3]; exact hne
      · rw [g3]; intro e; injection e with e; omega
    exact (hV k hk (Nat.lt_of_lt_of_le hlt g2.size) hne').trans (g2.block k hlt (fun e => hne e.symm))
  by_cases hi : i < l.length
  · rw [List.getElem?_append_left hi] at hy
    rw [List.getElem?_append_left (by omega)] at hd
    exact h3 i y ds hy hd V hVw
  · rw [List.getElem?_append_right (by omega)] at hy
    rw [List.getElem?_append_right (by omega), h1] at hd
    have hi2 : i - l.length = 0 := by
      have := (List.getElem?_eq_some_iff.1 hy).1
      simp at this; omega
    rw [hi2] at hy hd
    simp at hy hd
    subst hy hd
    exact hu' V hVw

theorem run_headR (l : List UInt8) (j : Nat) (hj : j ≤ l.length) : ∀ V : World, (Instr.slice 9 (.string ⟨⟨l⟩⟩) none (some (.int .i64 (j : Int))) none).run Tryd.prog V = .ok (.string ⟨⟨l.take j⟩⟩) V := by
  intro V
  rw [run_slice_string_to_if V 9 ⟨⟨l⟩⟩ .i64 (j : Int) Tryd.underlying9]
  have hs : (ByteArray.mk ⟨l⟩).size = l.length := rfl
  rw [if_pos ⟨by omega, by rw [hs]; omega⟩, Int.toNat_natCast]
  have h := Lib.extract_data ⟨⟨l⟩⟩ 0 j
  generalize (ByteArray.mk ⟨l⟩).extract 0 j = x at *
  obtain ⟨⟨d⟩⟩ := x
  simp only at h
  rw [h, List.drop_zero, Nat.sub_zero]

theorem run_restR (l : List UInt8) (j : Nat) (hj : j ≤ l.length) (jI : Int) (e : jI = (j : Int)) : ∀ V : World, (Instr.slice 9 (.string ⟨⟨l⟩⟩) (some (.int .i64 jI)) none none).run Tryd.prog V = .ok (.string ⟨⟨l.drop j⟩⟩) V := by
  subst e
  intro V
  rw [run_slice_string_from_if V 9 ⟨⟨l⟩⟩ .i64 (j : Int) Tryd.underlying9]
  have hs : (ByteArray.mk ⟨l⟩).size = l.length := rfl
  rw [if_pos ⟨by omega, by rw [hs]; omega⟩, Int.toNat_natCast]
  have h := Lib.extract_data ⟨⟨l⟩⟩ j (ByteArray.mk ⟨l⟩).size
  generalize (ByteArray.mk ⟨l⟩).extract j (ByteArray.mk ⟨l⟩).size = x at *
  obtain ⟨⟨d⟩⟩ := x
  simp only at h
  rw [h, hs, List.take_of_length_le (by rw [List.length_drop]; omega)]

/-- What reading a text leaves, for the document. -/
def RParseRes (w w' : World) (r : Script.Read) (e : Ending) : Prop :=
  match r with
  | .ok l => ∃ v, e = .returned (.tuple #[v, .int .i64 0, .int .i64 0]) ∧ OwnQ w' w.heap.size v l
  | .bad k er => e = .returned (.tuple #[.slice none 0 0, .int .i64 (k : Int), .int .i64 (er : Int)])

/-- While lines are read: n, the text that is left, the steps so far. -/
def RLineRel (w : World) (s : List UInt8) (s0 s5 s6 : Value) (wr : World) : Prop :=
  ∃ (n : Nat) (t : List UInt8) (l : List Script.Step), s0 = .string ⟨⟨t⟩⟩ ∧ s6 = .int .i64 (n : Int) ∧ 1 ≤ n ∧ n = l.length + 1 ∧ n ≤ 201 ∧ t.length ≤ s.length ∧ OwnQ wr w.heap.size s5 l ∧ Below w.heap.size w wr ∧
    parseOf s = (match parseAt n t with | .ok m => .ok (l ++ m) | .bad k e => .bad k e)

theorem cut_here {t : List UInt8} {j : Nat} (hc : t[j]? = some 10) (hno : ∀ c ∈ t.take j, c ≠ 10) : firstLine t = t.take j ∧ restLines t = t.drop (j + 1) ∧ hasEnd t = true := by
  have e : t = t.take j ++ 10 :: t.drop (j + 1) := by
    have h1 := (List.take_append_drop j t).symm
    obtain ⟨hlt, e⟩ := List.getElem?_eq_some_iff.1 hc
    have h3 : t.drop j = 10 :: t.drop (j + 1) := by rw [List.drop_eq_getElem_cons hlt, e]
    rw [h3] at h1
    exact h1
  have := first_of hno (t.drop (j + 1))
  rw [← e] at this
  exact this

set_option maxRecDepth 100000 in
set_option maxHeartbeats 4000000 in
theorem rparse_any (s : List UInt8) (w : World) (hs : s.length ≤ 2000) :
    Calls Tryd.prog 13 #[.string ⟨⟨s⟩⟩] w fun e w' => RParseRes w w' (Script.parseOf s) e ∧ Below w.heap.size w w' := by
  have HSL := Lib.hid hs
  clear hs
  go_enter Tryd.func13, Tryd.ntmps13
  go_wp2_with fail
  go_loopw [0, 5, 6] (fun s0 s5 s6 wr => RLineRel w s s0 s5 s6 wr) (fun s0 _ _ _ => textLeft s0)
  case atStart =>
    refine ⟨1, s, [], rfl, rfl, Nat.le_refl _, rfl, by omega, Nat.le_refl _, OwnQ.none_, Below.refl _ _, ?_⟩
    unfold parseOf
    cases parseAt 1 s <;> rfl
  case round =>
    unfold RLineRel at hrel
    obtain ⟨n, t, l, rfl, rfl, hn1, hnl, hn2, htl, hown, hbw, hpo⟩ := hrel
    have HO := Lib.hid hown
    have HB := Lib.hid hbw
    have HP := Lib.hid hpo
    have HNL := Lib.hid hnl
    clear hown hbw hpo hnl
    by_cases ht : t = []
    · subst ht
      have HRES : Hid (Script.parseOf s = .ok l) := by show _ = _; rw [HP.out, parseAt_nil]; simp only [List.append_nil]
      clear HP
      go_wp2_with fail
      refine bodyPost_ret (by simp [results, Tryd.results13, go_sem]; try rfl) rfl ?_
      refine ⟨?_, HB.out⟩
      unfold RParseRes
      rw [HRES.out]
      exact ⟨_, rfl, HO.out⟩
    · have htb : (t == []) = false := by rw [beq_eq_false_iff_ne]; exact ht
      have htb2 : (t != []) = true := by rw [bne_iff_ne]; exact ht
      have hsz : (ByteArray.mk ⟨t⟩).size = t.length := rfl
      have HRL := Lib.hid (rest_lt ht)
      have HPA := Lib.hid (parseAt_some (n := n) ht)
      have HPN := Lib.hid (parseAt_bad (n := n) ht)
      obtain ⟨m, hm⟩ : ∃ m, m = t.length := ⟨_, rfl⟩
      have HM := Lib.hid hm
      rw [← hm] at hsz htl
      have HT2 := Lib.hid (Nat.le_trans htl HSL.out)
      have hm2 : m ≤ 2000 := HT2.out
      clear ht hm
      go_wp2_with fail
      go_loop [7] (fun i => ∃ j : Nat, j ≤ m ∧ i = .int .i64 (j : Int) ∧ ∀ c ∈ t.take j, c ≠ 10) (fun i => m - (intOf i).toNat)
      case atStart => exact ⟨0, Nat.zero_le _, rfl, by simp⟩
      case round =>
        obtain ⟨j, hj, rfl, hno⟩ := hrel
        have HNO := Lib.hid hno
        clear hno
        by_cases hjm : j < m
        · obtain ⟨c, hc⟩ : ∃ c, t[j]? = some c := ⟨t[j]'(by rw [← HM.out]; exact hjm), List.getElem?_eq_getElem _⟩
          have hat := run_at hc
          by_cases h10 : c = 10
          · subst h10
            rw [show ((10 : UInt8).toNat : Int) = 10 from rfl] at hat
            obtain ⟨hfl, hrs, hen⟩ := cut_here hc HNO.out
            have HFL := Lib.hid hfl
            have HRS := Lib.hid hrs
            have HEN := Lib.hid hen
            have hhd := run_headR t j (by rw [← HM.out]; exact hj)
            have hje : ((j : Int) == (m : Int)) = false := by rw [beq_eq_false_iff_ne]; omega
            clear hc hfl hrs hen
            have HRE := Lib.hid (rread_any (t.take j) wr (by rw [List.length_take]; have := HT2.out; omega))
            by_cases h200 : 200 < n
            · have HRES : Hid (Script.parseOf s = .bad n 7) := by
                show _ = _
                rw [HP.out]
                cases hr : readOf (firstLine t) with
                | none => rw [HPN.out hr, if_pos h200]
                | some x => rw [HPA.out x hr, if_pos h200]
              go_wp2_with fail
              refine bodyPost_ret (by simp [results, Tryd.results13, go_sem]; try rfl) rfl ?_
              refine ⟨?_, HB.out⟩
              unfold RParseRes
              rw [HRES.out]
              rfl
            · go_wp2_with fail
              refine HRE.out.mono ?_
              rintro e w3 ⟨hres, hb3⟩
              have HB3 := Lib.hid (HB.out.trans (hb3.mono HB.out.size))
              have HO3 := Lib.hid (HO.out.later hb3)
              have HS3 := Lib.hid hb3.size
              clear hb3 HRE
              unfold RReadRes at hres
              cases hr : readOf (t.take j) with
              | none =>
                rw [hr] at hres
                obtain ⟨k, nm, n0, n1, n2, n3, b, ta, pa, ka, tc, pc, kc, rfl⟩ := hres
                unfold stepCells
                have HRES : Hid (Script.parseOf s = .bad n 3) := by show _ = _; rw [HP.out, HPN.out (by rw [HFL.out]; exact hr), if_neg h200]
                clear hr
                go_wp2_with fail
                refine bodyPost_ret (by simp [results, Tryd.results13, go_sem]; try rfl) rfl ?_
                refine ⟨?_, HB3.out.alloc HB3.out.size _⟩
                unfold RParseRes
                rw [HRES.out]
                rfl
              | some x =>
                rw [hr] at hres
                obtain ⟨cs, rfl, hst⟩ := hres
                have hx := hst w3 fun _ _ _ => rfl
                have HST := Lib.hid hst
                obtain ⟨nm, n0, n1, n2, n3, ta, pa, ka, tc, pc, kc, -, -, rfl, -⟩ := hx
                unfold stepCells at HST ⊢
                have HPA2 := Lib.hid (HPA.out x (by rw [HFL.out]; exact hr))
                clear hst hr
                have HPX : Hid (Script.parseAt n t = (match Script.parseAt (n + 1) (t.drop (j + 1)) with | .ok m => .ok (x :: m) | .bad k e => .bad k e)) := by show _ = _; rw [HPA2.out, if_neg h200, HEN.out, HRS.out]; rfl
                have hrt := run_restR t (j + 1) (by rw [← HM.out]; omega) ((j : Int) + 1) (by omega)
                go_wp2_with (at_builtin; refine stop ?_)
                have hal1 := (Below.refl w3.heap.size w3).alloc (Nat.le_refl _) (.cells #[.int .i64 x.kind, .string nm, .int .i64 n0, .int .i64 n1, .int .i64 n2, .int .i64 n3, .int .i64 x.body.sn, .slice ta x.body.tn tc, .slice pa x.body.pn pc, .slice ka x.body.k.length kc] 59)
                have hal2 := (Below.refl (w3.alloc (.cells #[.int .i64 x.kind, .string nm, .int .i64 n0, .int .i64 n1, .int .i64 n2, .int .i64 n3, .int .i64 x.body.sn, .slice ta x.body.tn tc, .slice pa x.body.pn pc, .slice ka x.body.k.length kc] 59)).heap.size (w3.alloc (.cells #[.int .i64 x.kind, .string nm, .int .i64 n0, .int .i64 n1, .int .i64 n2, .int .i64 n3, .int .i64 x.body.sn, .slice ta x.body.tn tc, .slice pa x.body.pn pc, .slice ka x.body.k.length kc] 59))).alloc (Nat.le_refl _) (.cells #[.int .i64 x.kind, .string nm, .int .i64 n0, .int .i64 n1, .int .i64 n2, .int .i64 n3, .int .i64 x.body.sn, .slice ta x.body.tn tc, .slice pa x.body.pn pc, .slice ka x.body.k.length kc] 59)
                have hal := hal1.trans (hal2.mono (by rw [World.size_alloc]; omega))
                have ho5 := HO3.out.later hal
                have hb5 := HB3.out.trans (hal.mono HB3.out.size)
                have HO5 := Lib.hid ho5
                have HB5 := Lib.hid hb5
                have hrow := row_new (w3.alloc (.cells #[.int .i64 x.kind, .string nm, .int .i64 n0, .int .i64 n1, .int .i64 n2, .int .i64 n3, .int .i64 x.body.sn, .slice ta x.body.tn tc, .slice pa x.body.pn pc, .slice ka x.body.k.length kc] 59)) 59 #[.int .i64 x.kind, .string nm, .int .i64 n0, .int .i64 n1, .int .i64 n2, .int .i64 n3, .int .i64 x.body.sn, .slice ta x.body.tn tc, .slice pa x.body.pn pc, .slice ka x.body.k.length kc]
                rw [World.size_alloc] at hrow
                refine unstop (wpList_appendQ (u := x) rfl _ _ rfl rfl ho5 rfl hrow ?_ (by have := HNL.out; omega) hb5.size ?_)
                · intro V hV
                  refine HST.out V fun k h1 h2 => ?_
                  have hs3 := HS3.out
                  have hne : u5.ownBlock ≠ some k := fun e => by have := (HO.out.lt k e).2; omega
                  have hbb := HB.out.size
                  rw [hV k (by omega) (by rw [World.size_alloc, World.size_alloc]; omega) hne, heap_alloc_old _ _ (by rw [World.size_alloc]; omega), heap_alloc_old _ _ h2]
                intro v6 w6 ho6 hg6
                have hb6 : Below w.heap.size w w6 := HB5.out.grown hg6 HB5.out.size (fun k hk => (HO5.out.lt k hk).1)
                have HO6 := Lib.hid ho6
                have HB6 := Lib.hid hb6
                clear hal1 hal2 hal ho5 hb5 ho6 hg6 hb6 hrow
                go_wp2_with fail
                go_roundw
                case rel =>
                  unfold RLineRel
                  refine ⟨n + 1, t.drop (j + 1), l ++ [x], rfl, by go_num, by omega, by rw [List.length_append, HNL.out]; rfl, by omega, by rw [List.length_drop, ← HM.out]; omega, HO6.out, HB6.out, ?_⟩
                  rw [HP.out, HPX.out]
                  cases parseAt (n + 1) (t.drop (j + 1)) <;> simp
                case measure =>
                  have h : (t.drop (j + 1)).length < t.length := by rw [← HRS.out]; exact HRL.out
                  exact h
          · have hk : ((c.toNat : Nat) : Int) ≠ 10 := by
              intro h
              apply h10
              apply UInt8.toNat_inj.1
              show c.toNat = 10
              omega
            have hkb : (((c.toNat : Nat) : Int) != 10) = true := by rw [bne_iff_ne]; exact hk
            have HNC : Hid (∀ d ∈ t.take (j + 1), d ≠ 10) := by
              intro d hd
              rw [take_snoc hc] at hd
              rcases List.mem_append.1 hd with hd | hd
              · exact HNO.out d hd
              · rw [List.mem_singleton] at hd
                rw [hd]
                exact h10
            clear hc h10 hk
            generalize c.toNat = k at *
            go_wp2_with fail
            go_round
            case rel => exact ⟨j + 1, by omega, by go_num, HNC.out⟩
            case measure => simp [intOf]; omega
        · obtain rfl : m = j := by omega
          obtain ⟨j, hjj⟩ : ∃ j, j = m := ⟨_, rfl⟩
          subst hjj
          have htk : t.take j = t := List.take_of_length_le (by rw [← HM.out]; exact Nat.le_refl _)
          have hno := HNO.out
          rw [htk] at hno
          obtain ⟨hfl, hen⟩ := first_no hno
          have HFL : Hid (firstLine t = t.take j) := by show _ = _; rw [htk]; exact hfl
          have HEN := Lib.hid hen
          have hhd := run_headR t j (by rw [← HM.out]; exact Nat.le_refl _)
          clear hfl hen hno htk
          have HRE := Lib.hid (rread_any (t.take j) wr (by rw [List.length_take]; have := HT2.out; omega))
          by_cases h200 : 200 < n
          · have HRES : Hid (Script.parseOf s = .bad n 7) := by
              show _ = _
              rw [HP.out]
              cases hr : readOf (firstLine t) with
              | none => rw [HPN.out hr, if_pos h200]
              | some x => rw [HPA.out x hr, if_pos h200]
            go_wp2_with fail
            refine bodyPost_ret (by simp [results, Tryd.results13, go_sem]; try rfl) rfl ?_
            refine ⟨?_, HB.out⟩
            unfold RParseRes
            rw [HRES.out]
            rfl
          · go_wp2_with fail
            refine HRE.out.mono ?_
            rintro e w3 ⟨hres, hb3⟩
            have HB3 := Lib.hid (HB.out.trans (hb3.mono HB.out.size))
            have HO3 := Lib.hid (HO.out.later hb3)
            have HS3 := Lib.hid hb3.size
            clear hb3 HRE
            unfold RReadRes at hres
            cases hr : readOf (t.take j) with
            | none =>
              rw [hr] at hres
              obtain ⟨k, nm, n0, n1, n2, n3, b, ta, pa, ka, tc, pc, kc, rfl⟩ := hres
              unfold stepCells
              have HRES : Hid (Script.parseOf s = .bad n 3) := by show _ = _; rw [HP.out, HPN.out (by rw [HFL.out]; exact hr), if_neg h200]
              clear hr
              go_wp2_with fail
              refine bodyPost_ret (by simp [results, Tryd.results13, go_sem]; try rfl) rfl ?_
              refine ⟨?_, HB3.out.alloc HB3.out.size _⟩
              unfold RParseRes
              rw [HRES.out]
              rfl
            | some x =>
              rw [hr] at hres
              obtain ⟨cs, rfl, hst⟩ := hres
              have hx := hst w3 fun _ _ _ => rfl
              have HST := Lib.hid hst
              obtain ⟨nm, n0, n1, n2, n3, ta, pa, ka, tc, pc, kc, -, -, rfl, -⟩ := hx
              unfold stepCells at HST ⊢
              have HPA2 := Lib.hid (HPA.out x (by rw [HFL.out]; exact hr))
              clear hst hr
              have HRES : Hid (Script.parseOf s = .bad n 4) := by show _ = _; rw [HP.out, HPA2.out, if_neg h200, HEN.out]; rfl
              go_wp2_with fail
              refine bodyPost_ret (by simp [results, Tryd.results13, go_sem]; try rfl) rfl ?_
              refine ⟨?_, HB3.out.alloc HB3.out.size _⟩
              unfold RParseRes
              rw [HRES.out]
              rfl

end Go.Proofs.YtjcffbhgjmaicaaDoor
