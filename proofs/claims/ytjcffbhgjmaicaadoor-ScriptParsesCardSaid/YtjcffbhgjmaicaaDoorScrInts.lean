/-
  Layer 55 (script): rows of ints that a call owns; bodies in memory.
-/
import Derived.Test.YtjcffbhgjmaicaaDoorScrSmall
import Derived.Deep.OwnRows
namespace Go.Proofs.YtjcffbhgjmaicaaDoor
open Go.RowKit
open Script

theorem infoInt : (Tryd.prog.info? 3).map (fun i => (i.zero, i.size, i.bytes)) = some (some (.int .i64 0), 1, 8) := by kernel_rfl

theorem oneCell_ints (l : List Int) : ∀ u ∈ l.map intCell, u.oneCell' = true := by
  intro u hu
  obtain ⟨c, _, rfl⟩ := List.mem_map.1 hu
  rfl

/-- The slice value v owns a row of the ints l, in a block from 'base' on. -/
def OwnI (w : World) (base : Nat) (v : Value) (l : List Int) : Prop := w.ownsRow base 3 1 v l.length (l.map intCell)

theorem OwnI.none_ {w : World} {base : Nat} : OwnI w base (.slice none 0 0) [] := World.ownsRow_nil w base _ 1
theorem OwnI.ints {w : World} {base : Nat} {v : Value} {l : List Int} (h : OwnI w base v l) : ∃ a c, v = .slice a l.length c ∧ l.length ≤ c ∧ c ≤ maxLen ∧ Ints w a l := by
  obtain ⟨a, c, rfl, h1, h2⟩ := ownsRow_form h
  exact ⟨a, c, rfl, h1, h2, Row.own h⟩
theorem OwnI.later {w w' : World} {base : Nat} {v : Value} {l : List Int} (h : OwnI w base v l) (hb : Below w.heap.size w w') : OwnI w' base v l := by
  refine World.ownsRow.kept (row := none) h ⟨hb.os, hb.tape, hb.output, hb.size, fun k hk _ => hb.block k hk⟩ ?_
  cases hv : v.ownBlock <;> simp
theorem OwnI.lt {w : World} {base : Nat} {v : Value} {l : List Int} (h : OwnI w base v l) : ∀ k, v.ownBlock = some k → base ≤ k ∧ k < w.heap.size := World.ownsRow.lt h

/-- 'append(v, x...)', v a row of ints of the call's own, x whatever ints. -/
theorem wpList_appendI {w : World} {ops : Array Oper} {rest : List Oper} {o : Oper} {a : Act} {Q : Exit → Act → World → Prop} (hgd : o.guard = none) (s x : Operand)
    (ho : o.op = .call { callee := .builtin .append, args := #[s, x], argTypes := #[46, 46] })
    {base : Nat} {v : Value} {l : List Int} (hs : a.eval s = v) (hown : OwnI w base v l)
    {A : Option Addr} {n c : Nat} {m : List Int} (hx : a.eval x = .slice A n c) (hn : n = m.length) (ht : Ints w A m)
    (hlen : l.length + m.length ≤ 1000000000) (hbase : base ≤ w.heap.size)
    (h : ∀ v' w', OwnI w' base v' (l ++ m) → w.grownBy w' v.ownBlock → wpList Tryd.prog ops Q rest (a.put o.dst v') w') : wpList Tryd.prog ops Q (o :: rest) a w := by
  obtain ⟨i0, hi0, hz0, hz1, hz2⟩ := info_parts infoInt
  subst hn
  refine wpList_append_row w hgd s x _ ho base 3 i0 _ 1 8 Tryd.underlying46 hi0 hz0 hz1 hz2 rfl (by omega) v l.length (l.map intCell) hs hown A m.length c (m.map intCell) hx (by simp) ht (oneCell_ints m) (by simp only [maxLen]; omega) (by omega) hbase ?_
  intro v' w' h1 h2 h3
  refine h v' w' ?_ h2
  unfold OwnI
  rw [List.map_append, List.length_append]
  exact h1

theorem below_appendI {W w w' : World} {base : Nat} {v : Value} {l : List Int} (hb : Below W.heap.size W w) (hown : OwnI w base v l) (hbase : W.heap.size ≤ base) (hg : w.grownBy w' v.ownBlock) : Below W.heap.size W w' :=
  below_append hb hown hbase hg

/-- A body's value. -/
structure BodyAt (w : World) (b : Script.Body) (ta pa ka : Option Addr) : Prop where
  t : Ints w ta b.t
  p : Ints w pa b.p
  k : Ints w ka b.k
  tl : b.t.length = 3 * b.tn
  pl : b.p.length = 3 * b.pn

theorem BodyAt.below {w w' : World} {b : Script.Body} {ta pa ka : Option Addr} (h : BodyAt w b ta pa ka) (hb : Below w.heap.size w w') : BodyAt w' b ta pa ka :=
  ⟨h.t.below hb, h.p.below hb, h.k.below hb, h.tl, h.pl⟩

theorem take3 {l : List Int} {k : Nat} {x y z : Int} (h0 : l[3 * k]? = some x) (h1 : l[3 * k + 1]? = some y) (h2 : l[3 * k + 2]? = some z) : l.take (3 * (k + 1)) = l.take (3 * k) ++ [x, y, z] := by
  rw [show 3 * (k + 1) = 3 * k + 1 + 1 + 1 from by omega, take_snoc h2, take_snoc h1, take_snoc h0]
  simp

theorem ints_new3 (W : World) (e : TypeId) (x y z : Int) : Ints (W.alloc (.cells #[.int .i64 x, .int .i64 y, .int .i64 z] e)) (some ⟨W.heap.size, 0, none⟩) [x, y, z] := by
  refine fun _ => ⟨_, _, rfl, fun j u hj => ?_⟩
  rw [World.cell?_alloc_new]
  match j, hj with
  | 0, hj | 1, hj | 2, hj => simp [intCell] at hj; subst hj; rfl
  | n + 3, hj => simp at hj

set_option maxRecDepth 100000 in
set_option maxHeartbeats 4000000 in
theorem numbers_any (b : Script.Body) (ta pa ka : Option Addr) (tc pc kc : Nat) (w : World) (h : BodyAt w b ta pa ka) (hp : b.pn ≤ 100000) (ht : b.tn ≤ 100000) (hk : b.k.length ≤ 1000000) :
    Calls Tryd.prog 42 #[.agg #[.int .i64 b.sn, .slice ta b.tn tc, .slice pa b.pn pc, .slice ka b.k.length kc]] w fun e w' => ∃ v, e = .returned v ∧ OwnI w' w.heap.size v (Script.numbers b) ∧ Below w.heap.size w w' := by
  have HTI := Lib.hid h.t
  have HPI := Lib.hid h.p
  have HKI := Lib.hid h.k
  have HTL := Lib.hid h.tl
  have HPL := Lib.hid h.pl
  have HNN : Hid (Script.numbers b = [b.sn, (b.tn : Int), (b.k.length : Int)] ++ b.p ++ b.t ++ b.k) := by show _ = _; unfold Script.numbers; simp
  generalize Script.numbers b = NB at *
  obtain ⟨sn, pn, p, tn, t, k⟩ := b
  simp only at HTI HPI HKI HTL HPL HNN hp ht hk ⊢
  clear h
  generalize hkl : k.length = kl at *
  have HKL := Lib.hid hkl
  clear hkl
  go_enter Tryd.func42, Tryd.ntmps42
  go_wp2_with fail
  have hw0 := (Below.refl w.heap.size w).alloc (Nat.le_refl _) (.cells #[.int .i64 sn, .slice ta tn tc, .slice pa pn pc, .slice ka kl kc] 48)
  have HW0 := Lib.hid hw0
  have hsz : (w.alloc (.cells #[.int .i64 sn, .slice ta tn tc, .slice pa pn pc, .slice ka kl kc] 48)).heap.size = w.heap.size + 1 := by simp
  have HSZ := Lib.hid hsz
  have HBX : Hid (∀ j u, #[Value.int .i64 sn, .slice ta tn tc, .slice pa pn pc, .slice ka kl kc][j]? = some u → (w.alloc (.cells #[.int .i64 sn, .slice ta tn tc, .slice pa pn pc, .slice ka kl kc] 48)).cell? ⟨w.heap.size, j, none⟩ = some u) := fun j u hj => by rw [World.cell?_alloc_new]; exact hj
  clear hw0 hsz
  generalize w.alloc (.cells #[.int .i64 sn, .slice ta tn tc, .slice pa pn pc, .slice ka kl kc] 48) = W0 at *
  rw [← HSZ.out]
  have hl0 : OwnI (W0.alloc (.cells #[.int .i64 sn, .int .i64 (tn : Int), .int .i64 (kl : Int)] 3)) W0.heap.size (.slice (some ⟨W0.heap.size, 0, none⟩) 3 3) [sn, (tn : Int), (kl : Int)] :=
    World.ownsRow_lit (e := 3) (size := 1) W0 #[.int .i64 sn, .int .i64 (tn : Int), .int .i64 (kl : Int)] 3 (Nat.le_refl _) (by decide) (by simp)
  have hb0 := (Below.refl W0.heap.size W0).alloc (Nat.le_refl _) (.cells #[.int .i64 sn, .int .i64 (tn : Int), .int .i64 (kl : Int)] 3)
  obtain ⟨H0, hH0⟩ : ∃ H0, H0 = [sn, (tn : Int), (kl : Int)] := ⟨_, rfl⟩
  have HH0 := Lib.hid hH0
  have hlen0 : H0.length = 3 := by rw [hH0]; rfl
  rw [← hH0] at hl0
  have HL0 := Lib.hid hlen0
  have HL := Lib.hid hl0
  have HB0 := Lib.hid hb0
  clear hH0 hl0 hb0 hlen0
  go_loopw [3, 22] (fun x i wr => ∃ j : Nat, j ≤ pn ∧ i = .int .i64 j ∧ OwnI wr W0.heap.size x (H0 ++ p.take (3 * j)) ∧ Below W0.heap.size W0 wr) (fun _ i _ => pn - (intOf i).toNat)
  case atStart => exact ⟨0, by omega, rfl, by simpa using HL.out, HB0.out⟩
  case round =>
    clear HL HB0
    obtain ⟨j, hj, rfl, ho, hb⟩ := hrel
    have hpl := HPL.out
    by_cases hjn : j < pn
    · obtain ⟨x, hx⟩ : ∃ x, p[3 * j]? = some x := ⟨p[3 * j]'(by omega), List.getElem?_eq_getElem _⟩
      obtain ⟨y, hy⟩ : ∃ y, p[3 * j + 1]? = some y := ⟨p[3 * j + 1]'(by omega), List.getElem?_eq_getElem _⟩
      obtain ⟨z, hz⟩ : ∃ z, p[3 * j + 2]? = some z := ⟨p[3 * j + 2]'(by omega), List.getElem?_eq_getElem _⟩
      obtain ⟨bp, op, rfl, hc⟩ := HPI.out.at_ (by omega)
      have hbw : Below w.heap.size w wr := HW0.out.trans (hb.mono HW0.out.size)
      have c0 := hc (3 * j) x hx
      have c1 := hc (3 * j + 1) y hy
      have c2 := hc (3 * j + 2) z hz
      have g0 := (hbw.cell (p := ⟨bp, op + 3 * j, none⟩) (lt_of_cell c0)).trans c0
      have g1 := (hbw.cell (p := ⟨bp, op + (3 * j + 1), none⟩) (lt_of_cell c1)).trans c1
      have g2 := (hbw.cell (p := ⟨bp, op + (3 * j + 2), none⟩) (lt_of_cell c2)).trans c2
      rw [Nat.mul_comm 3 j] at g0 g1 g2
      rw [← Nat.add_assoc] at g1 g2
      have HT3 := Lib.hid (take3 hx hy hz)
      have HO := Lib.hid ho
      have HBW := Lib.hid hb
      clear hc c0 c1 c2 hx hy hz hpl ho hbw hb
      go_wp2_with (at_builtin; refine stop ?_)
      have ho1 := HO.out.later ((Below.refl wr.heap.size wr).alloc (Nat.le_refl _) (.cells #[.int .i64 x, .int .i64 y, .int .i64 z] 53))
      have hb1 := HBW.out.alloc HBW.out.size (.cells #[.int .i64 x, .int .i64 y, .int .i64 z] 53)
      refine unstop (wpList_appendI rfl (.tmp 26) (.tmp 27) rfl rfl ho1 rfl (by rfl) (ints_new3 wr _ x y z) (by have := HL0.out; have := HPL.out; simp only [List.length_append, List.length_take, List.length_cons, List.length_nil]; omega) hb1.size ?_)
      intro v2 w2 h2 hg2
      have hb2 := below_appendI hb1 ho1 (Nat.le_refl _) hg2
      rw [List.append_assoc, ← HT3.out] at h2
      clear ho1 hb1 hg2
      go_wp2_with fail
      go_roundw
      case rel => exact ⟨j + 1, by omega, by go_num, h2, hb2⟩
      case measure => simp [intOf]; omega
    · obtain rfl : j = pn := by omega
      have hb1 := (hb.cell (p := ⟨w.heap.size, 1, none⟩) (lt_of_cell (HBX.out 1 _ rfl))).trans (HBX.out 1 _ rfl)
      rw [List.take_of_length_le (by omega)] at ho
      obtain ⟨H1, hH1⟩ : ∃ H1, H1 = H0 ++ p := ⟨_, rfl⟩
      have hl1 : H1.length = 3 + 3 * j := by rw [hH1, List.length_append, HL0.out, hpl]
      rw [← hH1] at ho
      have HH1 := Lib.hid hH1
      have HL1 := Lib.hid hl1
      have HO := Lib.hid ho
      have HBW := Lib.hid hb
      clear hH1 hl1 ho hb hpl
      go_wp2_with fail
      go_loopw [3, 34] (fun x i wr => ∃ m : Nat, m ≤ tn ∧ i = .int .i64 m ∧ OwnI wr W0.heap.size x (H1 ++ t.take (3 * m)) ∧ Below W0.heap.size W0 wr) (fun _ i _ => tn - (intOf i).toNat)
      case atStart => exact ⟨0, by omega, rfl, by simpa using HO.out, HBW.out⟩
      case round =>
        clear HO HBW
        obtain ⟨m, hm, rfl, ho, hb⟩ := hrel
        have htl := HTL.out
        by_cases hmn : m < tn
        · obtain ⟨x, hx⟩ : ∃ x, t[3 * m]? = some x := ⟨t[3 * m]'(by omega), List.getElem?_eq_getElem _⟩
          obtain ⟨y, hy⟩ : ∃ y, t[3 * m + 1]? = some y := ⟨t[3 * m + 1]'(by omega), List.getElem?_eq_getElem _⟩
          obtain ⟨z, hz⟩ : ∃ z, t[3 * m + 2]? = some z := ⟨t[3 * m + 2]'(by omega), List.getElem?_eq_getElem _⟩
          obtain ⟨bp, op, rfl, hc⟩ := HTI.out.at_ (by omega)
          have hbw : Below w.heap.size w wr := HW0.out.trans (hb.mono HW0.out.size)
          have c0 := hc (3 * m) x hx
          have c1 := hc (3 * m + 1) y hy
          have c2 := hc (3 * m + 2) z hz
          have g0 := (hbw.cell (p := ⟨bp, op + 3 * m, none⟩) (lt_of_cell c0)).trans c0
          have g1 := (hbw.cell (p := ⟨bp, op + (3 * m + 1), none⟩) (lt_of_cell c1)).trans c1
          have g2 := (hbw.cell (p := ⟨bp, op + (3 * m + 2), none⟩) (lt_of_cell c2)).trans c2
          rw [Nat.mul_comm 3 m] at g0 g1 g2
          rw [← Nat.add_assoc] at g1 g2
          have HT3 := Lib.hid (take3 hx hy hz)
          have HO := Lib.hid ho
          have HBW := Lib.hid hb
          clear hc c0 c1 c2 hx hy hz htl ho hbw hb
          go_wp2_with (at_builtin; refine stop ?_)
          have ho1 := HO.out.later ((Below.refl wr.heap.size wr).alloc (Nat.le_refl _) (.cells #[.int .i64 x, .int .i64 y, .int .i64 z] 89))
          have hb1 := HBW.out.alloc HBW.out.size (.cells #[.int .i64 x, .int .i64 y, .int .i64 z] 89)
          refine unstop (wpList_appendI rfl (.tmp 38) (.tmp 39) rfl rfl ho1 rfl (by rfl) (ints_new3 wr _ x y z) (by have := HL1.out; have := HTL.out; simp only [List.length_append, List.length_take, List.length_cons, List.length_nil]; omega) hb1.size ?_)
          intro v2 w2 h2 hg2
          have hb2 := below_appendI hb1 ho1 (Nat.le_refl _) hg2
          rw [List.append_assoc, ← HT3.out] at h2
          clear ho1 hb1 hg2
          go_wp2_with fail
          go_roundw
          case rel => exact ⟨m + 1, by omega, by go_num, h2, hb2⟩
          case measure => simp [intOf]; omega
        · obtain rfl : m = tn := by omega
          have hb3 := (hb.cell (p := ⟨w.heap.size, 3, none⟩) (lt_of_cell (HBX.out 3 _ rfl))).trans (HBX.out 3 _ rfl)
          rw [List.take_of_length_le (by omega)] at ho
          have hbw : Below w.heap.size w wr := HW0.out.trans (hb.mono HW0.out.size)
          have tk := HKI.out.below hbw
          have hlen : (H1 ++ t).length = 3 + 3 * j + 3 * m := by rw [List.length_append, HL1.out, htl]
          have HLN := Lib.hid hlen
          have HBW := Lib.hid hb
          clear hbw htl hlen
          go_wp2_with (at_builtin; refine stop ?_)
          refine unstop (wpList_appendI rfl _ _ rfl rfl ho rfl HKL.out.symm tk (by rw [HLN.out, HKL.out]; omega) hb.size ?_)
          intro v2 w2 h2 hg2
          have hb2 := below_appendI hb ho (Nat.le_refl _) hg2
          have e : H1 ++ t ++ k = NB := by rw [HNN.out, HH1.out, HH0.out]
          rw [e] at h2
          clear hg2 ho tk e
          go_wp2_with fail
          go_ret
          refine ⟨v2, rfl, ⟨h2.1, ?_⟩, HW0.out.trans (hb2.mono HW0.out.size)⟩
          rcases h2.2 with hn | ⟨g, cap, cur, rfl, hbg, rest⟩
          · exact .inl hn
          · exact .inr ⟨g, cap, cur, rfl, Nat.le_trans HW0.out.size hbg, rest⟩

end Go.Proofs.YtjcffbhgjmaicaaDoor
