/-
  Layer 55 (script): reading a text: the walk of Parse.
-/
import Derived.Test.YtjcffbhgjmaicaaDoorScrRead
namespace Go.Proofs.YtjcffbhgjmaicaaDoor
open Go.RowKit
open Script

theorem infoStep : (Tryd.prog.info? 51).map (fun i => (i.zero, i.size, i.bytes)) = some (some (.agg #[.int .i64 0, .string ⟨#[]⟩, .int .i64 0, .int .i64 0, .int .i64 0, .int .i64 0, .int .i64 0, .slice none 0 0, .slice none 0 0, .slice none 0 0]), 10, 136) := by kernel_rfl

/-- The slice value v owns a row of steps, in a block from 'base' on; their bodies' rows lie elsewhere. -/
def OwnS (w : World) (base : Nat) (v : Value) (l : List Script.Step) : Prop :=
  ∃ css : List (Array Value), css.length = l.length ∧ w.ownsRow base 51 10 v l.length (css.flatMap Array.toList) ∧
    ∀ (i : Nat) (x : Script.Step) (cs : Array Value), l[i]? = some x → css[i]? = some cs → ∀ V : World, (∀ k, base ≤ k → k < w.heap.size → v.ownBlock ≠ some k → V.heap[k]? = w.heap[k]?) → StepF base V x cs

theorem OwnS.none_ {w : World} {base : Nat} : OwnS w base (.slice none 0 0) [] := ⟨[], rfl, World.ownsRow_nil w base _ 10, fun i x cs h => by simp at h⟩

theorem OwnS.lt {w : World} {base : Nat} {v : Value} {l : List Script.Step} (h : OwnS w base v l) : ∀ k, v.ownBlock = some k → base ≤ k ∧ k < w.heap.size := by
  obtain ⟨css, -, ho, -⟩ := h
  exact World.ownsRow.lt ho

theorem OwnS.later {w w' : World} {base : Nat} {v : Value} {l : List Script.Step} (h : OwnS w base v l) (hb : Below w.heap.size w w') : OwnS w' base v l := by
  obtain ⟨css, h1, h2, h3⟩ := h
  refine ⟨css, h1, ?_, fun i x cs hx hc V hV => h3 i x cs hx hc V fun k hk hlt hne => (hV k hk (Nat.lt_of_lt_of_le hlt hb.size) hne).trans (hb.block k hlt)⟩
  refine World.ownsRow.kept (row := none) h2 ⟨hb.os, hb.tape, hb.output, hb.size, fun k hk _ => hb.block k hk⟩ ?_
  cases hv : v.ownBlock <;> simp

theorem stepV_cells {w : World} {x : Script.Step} {cs : Array Value} (h : StepV w x cs) : cs.size = 10 ∧ ∀ u ∈ cs.toList, u.oneCell' = true := by
  obtain ⟨nm, n0, n1, n2, n3, ta, pa, ka, tc, pc, kc, -, -, rfl, -⟩ := h
  refine ⟨rfl, ?_⟩
  intro u hu
  unfold stepCells at hu
  simp only [List.mem_cons, List.not_mem_nil, or_false] at hu
  rcases hu with rfl | rfl | rfl | rfl | rfl | rfl | rfl | rfl | rfl | rfl <;> rfl

/-- A step that was read is laid behind the row. -/
theorem wpList_appendS {w : World} {ops : Array Oper} {rest : List Oper} {o : Oper} {a : Act} {Q : Exit → Act → World → Prop} (hgd : o.guard = none) (s x : Operand)
    (ho : o.op = .call { callee := .builtin .append, args := #[s, x], argTypes := #[23, 23] })
    {base : Nat} {v : Value} {l : List Script.Step} (hs : a.eval s = v) (hown : OwnS w base v l)
    {A : Option Addr} {c : Nat} {u : Script.Step} {cs : Array Value} (hx : a.eval x = .slice A 1 c) (ht : Row w A cs.toList)
    (hu : ∀ V : World, (∀ k, base ≤ k → k < w.heap.size → v.ownBlock ≠ some k → V.heap[k]? = w.heap[k]?) → StepF base V u cs)
    (hlen : l.length ≤ 1000000) (hbase : base ≤ w.heap.size)
    (h : ∀ v' w', OwnS w' base v' (l ++ [u]) → w.grownBy w' v.ownBlock → wpList Tryd.prog ops Q rest (a.put o.dst v') w') : wpList Tryd.prog ops Q (o :: rest) a w := by
  obtain ⟨css, h1, h2, h3⟩ := hown
  obtain ⟨hcs, hone⟩ := stepV_cells (hu w fun _ _ _ _ => rfl).1
  obtain ⟨i0, hi0, hz0, hz1, hz2⟩ := info_parts infoStep
  have hu' := hu
  refine wpList_append_row w hgd s x _ ho base 51 i0 _ 10 136 Tryd.underlying23 hi0 hz0 hz1 hz2 rfl (by omega) v l.length (css.flatMap Array.toList) hs h2 A 1 c cs.toList hx (by simpa using hcs) ht hone (by simp only [maxLen]; omega) (by omega) hbase ?_
  intro v' w' g1 g2 g3
  refine h v' w' ⟨css ++ [cs], by simp [h1], by simpa using g1, ?_⟩ g2
  intro i y ds hy hd V hV
  -- the row's new block: the old one, or a new one
  have hVw : ∀ k, base ≤ k → k < w.heap.size → v.ownBlock ≠ some k → V.heap[k]? = w.heap[k]? := by
    intro k hk hlt hne
    have hne' : v'.ownBlock ≠ some k := by
      rcases g3 with g3 | g3
      · rw [g3]; exact hne
      · rw [g3]; intro e; injection e with e; omega
    exact (hV k hk (Nat.lt_of_lt_of_le hlt g2.size) hne').trans (g2.block k hlt (fun e => hne e.symm))
  by_cases hi : i < l.length
  · rw [List.getElem?_append_left hi] at hy
    rw [List.getElem?_append_left (by omega)] at hd
    exact h3 i y ds hy hd V hVw
  · rw [List.getElem?_append_right (by omega)] at hy
    rw [List.getElem?_append_right (by omega), h1] at hd
    have hi2 : i - l.length = 0 := by
      have := (List.getElem?_eq_some_iff.1 hy).1
      simp at this; omega
    rw [hi2] at hy hd
    simp at hy hd
    subst hy hd
    exact hu' V hVw

theorem parseAt_some {t : List UInt8} {n : Nat} (ht : t ≠ []) (x : Script.Step) (hx : readOf (firstLine t) = some x) : parseAt n t = (if 200 < n then .bad n 7 else if hasEnd t = true then (match parseAt (n + 1) (restLines t) with | .ok l => .ok (x :: l) | .bad k e => .bad k e) else .bad n 4) := by
  rw [parseAt.eq_1 n t, dif_neg ht, hx]
  rfl
theorem parseAt_bad {t : List UInt8} {n : Nat} (ht : t ≠ []) (hx : readOf (firstLine t) = none) : parseAt n t = (if 200 < n then .bad n 7 else .bad n 3) := by
  rw [parseAt.eq_1 n t, dif_neg ht, hx]
theorem size_drewN (w : World) : ∀ n, (w.drewN n).heap.size = w.heap.size
  | 0 => rfl
  | n + 1 => size_drewN w n

/-- What reading a text leaves. -/
def ParseRes (w w' : World) (r : Script.Read) (e : Ending) : Prop :=
  match r with
  | .ok l => ∃ v, e = .returned (.tuple #[v, .int .i64 0, .int .i64 0]) ∧ OwnS w' w.heap.size v l
  | .bad k er => e = .returned (.tuple #[.slice none 0 0, .int .i64 (k : Int), .int .i64 (er : Int)])

/-- While lines are read: n, the text that is left, the steps so far. -/
def LineRel (w : World) (s : List UInt8) (s0 s5 s6 : Value) (wr : World) : Prop :=
  ∃ (n : Nat) (t : List UInt8) (l : List Script.Step), s0 = .string ⟨⟨t⟩⟩ ∧ s6 = .int .i64 (n : Int) ∧ 1 ≤ n ∧ n = l.length + 1 ∧ n ≤ 201 ∧ t.length ≤ s.length ∧ OwnS wr w.heap.size s5 l ∧ Below w.heap.size w wr ∧
    parseOf s = (match parseAt n t with | .ok m => .ok (l ++ m) | .bad k e => .bad k e)

def textLeft (s0 : Value) : Nat := match s0 with | .string b => b.size | _ => 0

theorem row_new (W : World) (e : TypeId) (cs : Array Value) : Row (W.alloc (.cells cs e)) (some ⟨W.heap.size, 0, none⟩) cs.toList := by
  refine fun _ => ⟨_, _, rfl, fun j u hj => ?_⟩
  rw [World.cell?_alloc_new]
  simpa using hj

set_option maxRecDepth 100000 in
set_option maxHeartbeats 4000000 in
theorem parse_any (s : ByteArray) (w : World) (hs : s.size ≤ 1000000) (hrd : Ready w) :
    Calls Tryd.prog 12 #[.string s] w fun e w' => ParseRes w w' (Script.parseOf s.data.toList) e ∧ Below w.heap.size w w' := by
  obtain ⟨sl, rfl⟩ : ∃ l : List UInt8, s = ⟨⟨l⟩⟩ := ⟨s.data.toList, rfl⟩
  have hs2 : sl.length ≤ 1000000 := hs
  have HRD := Lib.hid (fun (V : World) (hV : Below w.heap.size w V) => hrd.below hV)
  clear hrd hs
  go_enter Tryd.func12, Tryd.ntmps12
  go_wp2_with fail
  go_loopw [0, 5, 6] (fun s0 s5 s6 wr => LineRel w sl s0 s5 s6 wr) (fun s0 _ _ _ => textLeft s0)
  case atStart =>
    refine ⟨1, sl, [], rfl, rfl, Nat.le_refl _, rfl, by omega, Nat.le_refl _, OwnS.none_, Below.refl _ _, ?_⟩
    unfold parseOf
    cases parseAt 1 sl <;> rfl
  case round =>
    unfold LineRel at hrel
    obtain ⟨n, t, l, rfl, rfl, hn1, hnl, hn2, htl, hown, hbw, hpo⟩ := hrel
    have HO := Lib.hid hown
    have HB := Lib.hid hbw
    have HP := Lib.hid hpo
    have HNL := Lib.hid hnl
    clear hown hbw hpo hnl
    by_cases ht : t = []
    · subst ht
      have HRES : Hid (Script.parseOf sl = .ok l) := by show _ = _; rw [HP.out, parseAt_nil]; simp only [List.append_nil]
      clear HP
      go_wp2_with fail
      refine bodyPost_ret (by simp [results, Tryd.results12, go_sem]; try rfl) rfl ?_
      refine ⟨?_, HB.out⟩
      unfold ParseRes
      rw [HRES.out]
      exact ⟨_, rfl, HO.out⟩
    · have htb : (t == []) = false := by rw [beq_eq_false_iff_ne]; exact ht
      obtain ⟨mx, hmx⟩ := (HRD.out _ HB.out).max
      have hc := Tryd.strings_Cut ⟨⟨t⟩⟩ ⟨#[10]⟩ mx wr (by show t.length < _; omega) hmx
      rw [show Lib.cut (ByteArray.mk ⟨t⟩).data.toList (ByteArray.mk #[10]).data.toList = (firstLine t, restLines t, hasEnd t) from cut_lib t] at hc
      simp only at hc
      have HCUT := Lib.hid hc
      have HRL := Lib.hid (rest_lt ht)
      have HFL : Hid ((firstLine t).length ≤ t.length) := by show _ ≤ _; unfold firstLine; exact (List.takeWhile_sublist _).length_le
      have HPA := Lib.hid (parseAt_some (n := n) ht)
      have HPN := Lib.hid (parseAt_bad (n := n) ht)
      clear hc hmx ht
      go_wp2_with fail
      refine HCUT.out.mono ?_
      rintro e w2 ⟨rfl, nd, hw2⟩
      have hb2 : Below wr.heap.size wr w2 := by rw [hw2]; exact below_drewL (Below.refl _ _) _
      have hs2 : w2.heap.size = wr.heap.size := by rw [hw2]; exact size_drewN wr nd
      have HS2 := Lib.hid hs2
      have HB2 := Lib.hid (HB.out.trans (hb2.mono HB.out.size))
      have HO2 := Lib.hid (HO.out.later hb2)
      have HRE := Lib.hid (read_any ⟨(firstLine t).toArray⟩ w2 (by show (firstLine t).toArray.size ≤ _; rw [List.size_toArray]; have := HFL.out; omega) (HRD.out _ HB2.out))
      clear hb2 hs2 hw2 HCUT
      go_wp2_with fail
      refine HRE.out.mono ?_
      rintro e w3 ⟨hres, hb3⟩
      have HB3 := Lib.hid (HB2.out.trans (hb3.mono HB2.out.size))
      have HO3 := Lib.hid (HO2.out.later hb3)
      have HS3 := Lib.hid hb3.size
      clear hb3 HRE
      unfold ReadRes at hres
      cases hr : readOf (firstLine t) with
      | none =>
        rw [hr] at hres
        obtain ⟨k, nm, n0, n1, n2, n3, b, ta, pa, ka, tc, pc, kc, rfl⟩ := hres
        unfold stepCells
        have HPN2 := Lib.hid (HPN.out hr)
        clear hr
        by_cases h200 : 200 < n
        · have HRES : Hid (Script.parseOf sl = .bad n 7) := by show _ = _; rw [HP.out, HPN2.out, if_pos h200]
          go_wp2_with fail
          refine bodyPost_ret (by simp [results, Tryd.results12, go_sem]; try rfl) rfl ?_
          refine ⟨?_, HB3.out.alloc HB3.out.size _⟩
          unfold ParseRes
          rw [HRES.out]
          rfl
        · have HRES : Hid (Script.parseOf sl = .bad n 3) := by show _ = _; rw [HP.out, HPN2.out, if_neg h200]
          go_wp2_with fail
          refine bodyPost_ret (by simp [results, Tryd.results12, go_sem]; try rfl) rfl ?_
          refine ⟨?_, HB3.out.alloc HB3.out.size _⟩
          unfold ParseRes
          rw [HRES.out]
          rfl
      | some x =>
        rw [hr] at hres
        obtain ⟨cs, rfl, hst⟩ := hres
        have hx := (hst w3 fun _ _ _ => rfl).1
        have HST := Lib.hid hst
        obtain ⟨nm, n0, n1, n2, n3, ta, pa, ka, tc, pc, kc, -, -, rfl, -⟩ := hx
        unfold stepCells at HST ⊢
        have HPA2 := Lib.hid (HPA.out x hr)
        clear hst hr
        by_cases h200 : 200 < n
        · have HRES : Hid (Script.parseOf sl = .bad n 7) := by show _ = _; rw [HP.out, HPA2.out, if_pos h200]
          go_wp2_with fail
          refine bodyPost_ret (by simp [results, Tryd.results12, go_sem]; try rfl) rfl ?_
          refine ⟨?_, HB3.out.alloc HB3.out.size _⟩
          unfold ParseRes
          rw [HRES.out]
          rfl
        · cases hen : hasEnd t with
          | false =>
            have HRES : Hid (Script.parseOf sl = .bad n 4) := by show _ = _; rw [HP.out, HPA2.out, if_neg h200, hen]; rfl
            clear hen
            go_wp2_with fail
            refine bodyPost_ret (by simp [results, Tryd.results12, go_sem]; try rfl) rfl ?_
            refine ⟨?_, HB3.out.alloc HB3.out.size _⟩
            unfold ParseRes
            rw [HRES.out]
            rfl
          | true =>
            have HPX : Hid (Script.parseAt n t = (match Script.parseAt (n + 1) (restLines t) with | .ok m => .ok (x :: m) | .bad k e => .bad k e)) := by show _ = _; rw [HPA2.out, if_neg h200, hen]; rfl
            clear hen
            go_wp2_with (at_builtin; refine stop ?_)
            have hal1 := (Below.refl w3.heap.size w3).alloc (Nat.le_refl _) (.cells #[.int .i64 x.kind, .string nm, .int .i64 n0, .int .i64 n1, .int .i64 n2, .int .i64 n3, .int .i64 x.body.sn, .slice ta x.body.tn tc, .slice pa x.body.pn pc, .slice ka x.body.k.length kc] 51)
            have hal2 := (Below.refl (w3.alloc (.cells #[.int .i64 x.kind, .string nm, .int .i64 n0, .int .i64 n1, .int .i64 n2, .int .i64 n3, .int .i64 x.body.sn, .slice ta x.body.tn tc, .slice pa x.body.pn pc, .slice ka x.body.k.length kc] 51)).heap.size (w3.alloc (.cells #[.int .i64 x.kind, .string nm, .int .i64 n0, .int .i64 n1, .int .i64 n2, .int .i64 n3, .int .i64 x.body.sn, .slice ta x.body.tn tc, .slice pa x.body.pn pc, .slice ka x.body.k.length kc] 51))).alloc (Nat.le_refl _) (.cells #[.int .i64 x.kind, .string nm, .int .i64 n0, .int .i64 n1, .int .i64 n2, .int .i64 n3, .int .i64 x.body.sn, .slice ta x.body.tn tc, .slice pa x.body.pn pc, .slice ka x.body.k.length kc] 51)
            have hal := hal1.trans (hal2.mono (by rw [World.size_alloc]; omega))
            have ho5 := HO3.out.later hal
            have hb5 := HB3.out.trans (hal.mono HB3.out.size)
            have HO5 := Lib.hid ho5
            have HB5 := Lib.hid hb5
            have hrow := row_new (w3.alloc (.cells #[.int .i64 x.kind, .string nm, .int .i64 n0, .int .i64 n1, .int .i64 n2, .int .i64 n3, .int .i64 x.body.sn, .slice ta x.body.tn tc, .slice pa x.body.pn pc, .slice ka x.body.k.length kc] 51)) 51 #[.int .i64 x.kind, .string nm, .int .i64 n0, .int .i64 n1, .int .i64 n2, .int .i64 n3, .int .i64 x.body.sn, .slice ta x.body.tn tc, .slice pa x.body.pn pc, .slice ka x.body.k.length kc]
            rw [World.size_alloc] at hrow
            refine unstop (wpList_appendS (u := x) rfl _ _ rfl rfl ho5 rfl hrow ?_ (by have := HNL.out; omega) hb5.size ?_)
            · intro V hV
              refine (HST.out V fun k h1 h2 => ?_).mono HB2.out.size
              have hs2 := HS2.out
              have hne : u5.ownBlock ≠ some k := fun e => by have := (HO.out.lt k e).2; omega
              have hbb := HB2.out.size
              rw [hV k (by omega) (by rw [World.size_alloc, World.size_alloc]; omega) hne, heap_alloc_old _ _ (by rw [World.size_alloc]; omega), heap_alloc_old _ _ h2]
            intro v6 w6 ho6 hg6
            have hb6 : Below w.heap.size w w6 := HB5.out.grown hg6 HB5.out.size (fun k hk => (HO5.out.lt k hk).1)
            have HO6 := Lib.hid ho6
            have HB6 := Lib.hid hb6
            clear hal1 hal2 hal ho5 hb5 ho6 hg6 hb6 hrow
            go_wp2_with fail
            go_roundw
            case rel =>
              unfold LineRel
              refine ⟨n + 1, restLines t, l ++ [x], rfl, by go_num, by omega, by rw [List.length_append, HNL.out]; rfl, by omega, by have := HRL.out; omega, HO6.out, HB6.out, ?_⟩
              rw [HP.out, HPX.out]
              cases parseAt (n + 1) (restLines t) <;> simp
            case measure => exact HRL.out

end Go.Proofs.YtjcffbhgjmaicaaDoor
