/-
  Layer 55 (script): the text of steps.
-/
import Derived.Test.YtjcffbhgjmaicaaDoorScrLine
namespace Go.Proofs.YtjcffbhgjmaicaaDoor
open Go.RowKit
open Script

theorem text_snoc {l : List Script.Step} {j : Nat} {u : Script.Step} (h : l[j]? = some u) : Script.text (l.take (j + 1)) = Script.text (l.take j) ++ (Script.line u ++ [10]) := by
  rw [take_snoc h]
  simp [Script.text]

theorem text_length : ∀ {l : List Script.Step}, (∀ s ∈ l, (Script.line s).length ≤ 1000000) → (Script.text l).length ≤ 1000001 * l.length
  | [], _ => by simp [Script.text]
  | s :: l, h => by
    have h1 := h s (by simp)
    have h2 := text_length fun x hx => h x (List.mem_cons_of_mem _ hx)
    have e : Script.text (s :: l) = (Script.line s ++ [10]) ++ Script.text l := by simp [Script.text]
    rw [e, List.length_append, List.length_append, List.length_cons, List.length_cons, List.length_nil]
    omega

/-- What Text answers. -/
def textOf (l : List Script.Step) : List UInt8 := if rightAll l then Script.text l else []
def textErr (l : List Script.Step) : Int := if rightAll l then 0 else 3

set_option maxRecDepth 100000 in
set_option maxHeartbeats 4000000 in
theorem text_any (a : Option Addr) (n c : Nat) (l : List Script.Step) (w : World) (hn : l.length = n) (hn2 : n ≤ 1000000000) (h : StepsAt w a l) (hrd : Ready w) :
    Calls Tryd.prog 17 #[.slice a n c] w fun e w' => e = .returned (.tuple #[.string ⟨(textOf l).toArray⟩, .int .i64 (textErr l)]) ∧ Below w.heap.size w w' := by
  have HRA := Lib.hid (rightAll_any a n c l w hn hn2 h)
  have HRD := Lib.hid (fun (V : World) (hV : Below w.heap.size w V) => hrd.below hV)
  have HX := Lib.hid (fun (V : World) (hV : Below w.heap.size w V) => h.below hV)
  have HN := Lib.hid hn
  cases hra : rightAll l with
  | false =>
    have e1 : textOf l = [] := by unfold textOf; rw [hra]; rfl
    have e2 : textErr l = 3 := by unfold textErr; rw [hra]; rfl
    rw [e1, e2]
    rw [hra] at HRA
    clear h hn hrd hra
    go_enter Tryd.func17, Tryd.ntmps17
    go_wp2_with fail
    refine HRA.out.mono ?_
    rintro e w1 ⟨rfl, hb1⟩
    go_wp2_with fail
    go_ret2
    exact ⟨rfl, hb1⟩
  | true =>
    have e1 : textOf l = Script.text l := by unfold textOf; rw [hra]; rfl
    have e2 : textErr l = 0 := by unfold textErr; rw [hra]; rfl
    rw [e1, e2]
    have hra2 := hra
    unfold rightAll at hra2
    simp only [Bool.and_eq_true, decide_eq_true_iff, List.all_eq_true] at hra2
    have hn3 : n ≤ 200 := by omega
    have HR := Lib.hid hra2.2
    have HLL : Hid (∀ s ∈ l, (Script.line s).length ≤ 1000000) := fun s hs => by
      obtain ⟨i, hi⟩ := List.getElem?_of_mem hs
      obtain ⟨_, _, _, _, hv, _⟩ := h i s hi
      exact line_length (hra2.2 s hs) hv.wf
    rw [hra] at HRA
    clear h hn hrd hra hra2 e1 e2 hn2
    go_enter Tryd.func17, Tryd.ntmps17
    go_wp2_with fail
    refine HRA.out.mono ?_
    rintro e W1 ⟨rfl, hb1⟩
    have HB1 := Lib.hid hb1
    have HT0 := Lib.hid (Lib.IsBuilderF.of (Lib.fresh_isBuilder 66 5 W1))
    have HE0 := Lib.hid ((Below.refl W1.heap.size W1).alloc (Nat.le_refl _) (.cells #[.pointer none, .slice none 0 0] 66))
    clear hb1 HRA
    go_wp2_with fail
    go_loopw [12] (fun i wr => ∃ j : Nat, j ≤ n ∧ i = .int .i64 j ∧ Lib.IsBuilderF 66 5 W1.heap.size W1.heap.size (Lib.byteCells (Script.text (l.take j))) wr ∧ Below W1.heap.size W1 wr) (fun i _ => n - (intOf i).toNat)
    case atStart => exact ⟨0, by omega, rfl, HT0.out, HE0.out⟩
    case round =>
      clear HT0 HE0
      obtain ⟨j, hj, rfl, ht, hb⟩ := hrel
      by_cases hjn : j < n
      · obtain ⟨u, hu⟩ : ∃ u, l[j]? = some u := ⟨l[j]'(by rw [HN.out]; exact hjn), List.getElem?_eq_getElem _⟩
        have hbw := HB1.out.trans (hb.mono HB1.out.size)
        obtain ⟨g, o, cs, rfl, hv, hc⟩ := HX.out wr hbw j u hu
        have hru := HR.out u (List.mem_of_getElem? hu)
        have HLI := Lib.hid (fun (V : World) (hV : Below wr.heap.size wr V) => line_any (hv.below hV) hru ((HRD.out wr hbw).below hV))
        have HTS := Lib.hid (text_snoc hu)
        have HLU := Lib.hid (HLL.out u (List.mem_of_getElem? hu))
        have HTL : Hid ((Script.text (l.take j)).length ≤ 1000001 * 200) := by
          show _ ≤ _
          have h1 := text_length (l := l.take j) fun s hs => HLL.out s (List.mem_of_mem_take hs)
          rw [List.length_take] at h1
          refine Nat.le_trans h1 (Nat.mul_le_mul_left _ (by omega))
        have HTR := Lib.hid ht
        have HB := Lib.hid hb
        obtain ⟨nm, n0, n1, n2, n3, ta, pa, ka, tc, pc, kc, -, -, rfl, -⟩ := hv
        unfold stepCells at HLI hc
        have g0 := hc 0 _ rfl
        have g1 := hc 1 _ rfl
        have g2 := hc 2 _ rfl
        have g3 := hc 3 _ rfl
        have g4 := hc 4 _ rfl
        have g5 := hc 5 _ rfl
        have g6 := hc 6 _ rfl
        have g7 := hc 7 _ rfl
        have g8 := hc 8 _ rfl
        have g9 := hc 9 _ rfl
        rw [Nat.add_zero] at g0
        simp only [← Nat.add_assoc] at g1 g2 g3 g4 g5 g6 g7 g8 g9
        have hadd : ∀ V : World, (Op.stringOp .add ⟨(Script.line u).toArray⟩ ⟨#[10]⟩).run Tryd.prog V = .ok (.string ⟨(Script.line u ++ [10]).toArray⟩) V := fun V => run_string_add_lists _ (Script.line u) [10] (by have := HLU.out; omega) (by simp)
        clear hc hu hbw ht hb hru
        go_wp2_with fail
        have hal := (Below.refl wr.heap.size wr).alloc (Nat.le_refl _) (.cells #[.int .i64 u.kind, .string nm, .int .i64 n0, .int .i64 n1, .int .i64 n2, .int .i64 n3, .int .i64 u.body.sn, .slice ta u.body.tn tc, .slice pa u.body.pn pc, .slice ka u.body.k.length kc] 51)
        refine (HLI.out _ hal).mono ?_
        rintro e w5 ⟨rfl, hb5⟩
        have hb5' := hal.trans (hb5.mono (by simp))
        have HT5 := Lib.hid (isBuilderF_below HTR.out hb5')
        have HB5 := Lib.hid (HB.out.trans (hb5'.mono HB.out.size))
        clear hal hb5 hb5' HTR HB HLI g0 g1 g2 g3 g4 g5 g6 g7 g8 g9
        go_wp2_with fail
        have hlen : (Lib.byteCells (Script.text (l.take j))).length + (ByteArray.mk (Script.line u ++ [10]).toArray).size ≤ 140737488355328 := by
          rw [Lib.byteCells_length]
          show _ + (Script.line u ++ [10]).toArray.size ≤ _
          rw [List.size_toArray, List.length_append, List.length_cons, List.length_nil]
          have h1 := HTL.out
          have h2 := HLU.out
          omega
        have HWS := writeString_any W1.heap.size W1.heap.size (Lib.byteCells (Script.text (l.take j))) ⟨(Script.line u ++ [10]).toArray⟩ w5 HT5.out hlen HB5.out.size
        clear hlen
        refine HWS.mono ?_
        rintro e w8 ⟨rfl, ht8, hb8, -⟩
        rw [byteCells_snoc, ← HTS.out] at ht8
        have hbb8 := HB5.out.trans hb8
        clear hb8 HT5 HB5 hadd
        go_wp2_with fail
        go_roundw
        case rel => exact ⟨j + 1, by omega, by go_num, .inr ht8, hbb8⟩
        case measure => simp [intOf]; omega
      · obtain rfl : j = n := by omega
        rw [List.take_of_length_le (by rw [HN.out]; exact Nat.le_refl _)] at ht
        have HTR := Lib.hid ht
        have HB := Lib.hid hb
        clear ht hb
        go_wp2_with fail
        refine (Tryd.Builder_String_any_f W1.heap.size W1.heap.size (Script.text l) wr HTR.out HB.out.size).mono ?_
        rintro e w9 ⟨rfl, -, hb9⟩
        go_wp2_with fail
        go_ret2
        exact ⟨rfl, HB1.out.trans ((HB.out.trans hb9).mono HB1.out.size)⟩

end Go.Proofs.YtjcffbhgjmaicaaDoor
