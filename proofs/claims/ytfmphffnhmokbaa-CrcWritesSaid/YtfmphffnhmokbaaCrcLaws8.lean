/-
  The walks of the laws of layer 6, eighth part: what is written in parts.
-/
import Derived.Test.YtfmphffnhmokbaaCrcHelp
import Derived.Test.YtfmphffnhmokbaaTexts
namespace Go.Proofs.Ytfmphffnhmokbaa
open Go.RowKit
open CrcMath

set_option maxHeartbeats 1000000 in
theorem write_any (b off s : Nat) (A : Option Addr) (c : Nat) (l : List Nat) (w : World) (hs : s < 4294967296) (hm : l.length ≤ maxLen) (hc : w.cell? ⟨b, off, none⟩ = some (.int .u32 (s : Int))) (hf : w.frozen? ⟨b, off, none⟩ = false) (ht : Txt w A l) :
    Calls Try.prog 16 #[.pointer (some ⟨b, off, none⟩), .slice A l.length c] w fun e w' => e = .returned (.tuple #[]) ∧ w' = w.setCell ⟨b, off, none⟩ (.int .u32 (more s l : Nat)) := by
  have H := Lib.hid (update_any s A c l w hs hm ht)
  clear ht
  generalize more s l = z at *
  go_enter Try.func16, Try.ntmps16
  go_wp2_with fail
  refine H.out.mono ?_
  rintro e w' ⟨rfl, rfl⟩
  go_wp2
  go_end0
  exact ⟨rfl, rfl⟩

set_option maxHeartbeats 1000000 in
theorem write_none (A : Option Addr) (c n : Nat) (w : World) :
    Calls Try.prog 16 #[.pointer none, .slice A n c] w fun e w' => e = .returned (.tuple #[]) ∧ w = w' := by
  go_enter Try.func16, Try.ntmps16
  go_wp2
  go_end0
  exact ⟨rfl, rfl⟩

set_option maxHeartbeats 1000000 in
theorem hsum_any (b off s : Nat) (w : World) (hc : w.cell? ⟨b, off, none⟩ = some (.int .u32 (s : Int))) :
    Calls Try.prog 17 #[.pointer (some ⟨b, off, none⟩)] w fun e w' => e = .returned (.int .u32 (s : Int)) ∧ w = w' := by
  go_enter Try.func17, Try.ntmps17
  go_wp2
  go_ret
  exact ⟨rfl, rfl⟩

set_option maxHeartbeats 1000000 in
theorem hsum_none (w : World) :
    Calls Try.prog 17 #[.pointer none] w fun e w' => e = .returned (.int .u32 0) ∧ w = w' := by
  go_enter Try.func17, Try.ntmps17
  go_wp2
  go_ret
  exact ⟨rfl, rfl⟩

/-- All that the first k parts hold. -/
def upto (ls : List (List Nat)) (k : Nat) : List Nat := (ls.take k).flatten

theorem upto_succ {ls : List (List Nat)} {k : Nat} {l : List Nat} (h : ls[k]? = some l) : upto ls (k + 1) = upto ls k ++ l := by
  unfold upto; rw [take_snoc h]; simp
theorem upto_zero (ls : List (List Nat)) : upto ls 0 = [] := by simp [upto]

/-- What the other hash holds. -/
def only (ls : List (List Nat)) (k : Nat) : Nat := if k = 0 then 0 else sum (ls.headD [])

/-- A hash of the call's own. -/
def Hsh (w : World) (g s : Nat) : Prop := w.heap[g]? = some (.cells #[.int .u32 (s : Int)] 38 (0, 0))
theorem Hsh.cell {w : World} {g s : Nat} (h : Hsh w g s) : w.cell? ⟨g, 0, none⟩ = some (.int .u32 (s : Int)) := by
  have := cell_of_row w g 0 _ _ _ h
  simpa using this
theorem Hsh.thawed {w : World} {g s : Nat} (h : Hsh w g s) : w.frozen? ⟨g, 0, none⟩ = false := frozen_of_row w g 0 _ _ h
theorem Hsh.set {w : World} {g s : Nat} (h : Hsh w g s) (s' : Nat) : Hsh (w.setCell ⟨g, 0, none⟩ (.int .u32 (s' : Int))) g s' := by
  have := heap_setCell_same w g 0 _ _ (.int .u32 (s' : Int)) h
  unfold Hsh
  simpa using this

/-- What the round of the law's loop keeps. -/
structure St (w wr : World) (g : Nat) (v : Value) (u : List Nat) (s o : Nat) : Prop where
  own : OwnB wr (g + 2) v u
  h1 : Hsh wr g s
  h2 : Hsh wr (g + 1) o
  bel : Below w.heap.size w wr
  sz : g + 2 ≤ wr.heap.size
  wg : w.heap.size ≤ g

section
variable {w wr wr' : World} {g s o : Nat} {v : Value} {u : List Nat}
theorem St.later (h : St w wr g v u s o) (hb : Below wr.heap.size wr wr') : St w wr' g v u s o :=
  ⟨h.own.later hb, (hb.block g (by have := h.sz; omega)).trans h.h1, (hb.block (g + 1) (by have := h.sz; omega)).trans h.h2,
    h.bel.trans (hb.mono (by have := h.sz; have := h.wg; omega)), Nat.le_trans h.sz hb.size, h.wg⟩
theorem St.setH (h : St w wr g v u s o) (s' : Nat) : St w (wr.setCell ⟨g, 0, none⟩ (.int .u32 (s' : Int))) g v u s' o :=
  ⟨h.own.kept (grownBy_set wr g 0 _) (.inr fun e => by have := h.own.lt g e; omega), h.h1.set s', (Below.heap_setCell wr _ _ (g + 1) (by simp)).trans h.h2,
    h.bel.setCell (p := ⟨g, 0, none⟩) h.wg _, by simpa [World.setCell] using h.sz, h.wg⟩
theorem St.setO (h : St w wr g v u s o) (o' : Nat) : St w (wr.setCell ⟨g + 1, 0, none⟩ (.int .u32 (o' : Int))) g v u s o' :=
  ⟨h.own.kept (grownBy_set wr (g + 1) 0 _) (.inr fun e => by have := h.own.lt (g + 1) e; omega), (Below.heap_setCell wr _ _ g (by simp)).trans h.h1, h.h2.set o',
    h.bel.setCell (p := ⟨g + 1, 0, none⟩) (Nat.le_trans h.wg (by simp)) _, by simpa [World.setCell] using h.sz, h.wg⟩
theorem St.setOwn (h : St w wr g v u s o) {b : Nat} (hb : g + 2 ≤ b) (hne : v.ownBlock ≠ some b) (i : Nat) (x : Value) : St w (wr.setCell ⟨b, i, none⟩ x) g v u s o :=
  ⟨h.own.kept (grownBy_set wr b i _) (.inr hne), (Below.heap_setCell wr _ _ g (by simp only [ne_eq]; omega)).trans h.h1, (Below.heap_setCell wr _ _ (g + 1) (by simp only [ne_eq]; omega)).trans h.h2,
    h.bel.setCell (p := ⟨b, i, none⟩) (by have := h.wg; simp only; omega) _, by simpa [World.setCell] using h.sz, h.wg⟩
theorem St.grow (h : St w wr g v u s o) (hg : wr.grownBy wr' v.ownBlock) {v' : Value} {u' : List Nat} (ho : OwnB wr' (g + 2) v' u') : St w wr' g v' u' s o :=
  ⟨ho, (hg.block g (by have := h.sz; omega) (fun e => by have := h.own.lt g e.symm; omega)).trans h.h1, (hg.block (g + 1) (by have := h.sz; omega) (fun e => by have := h.own.lt (g + 1) e.symm; omega)).trans h.h2,
    h.bel.grown hg h.bel.size (fun k hk => by have := (h.own.lt k hk).1; have := h.wg; omega), Nat.le_trans h.sz hg.size, h.wg⟩
end

theorem quiet_none (W : World) (n : Nat) : Calls Try.prog 17 #[.pointer none] (W.drewN n) fun e w' => e = .returned (.int .u32 0) ∧ ∃ m, w' = W.drewN m :=
  (hsum_none (W.drewN n)).mono fun _ _ ⟨he, hw⟩ => ⟨he, n, hw.symm⟩
theorem quiet_hsum (W : World) (b off s n : Nat) (hc : W.cell? ⟨b, off, none⟩ = some (.int .u32 (s : Int))) :
    Calls Try.prog 17 #[.pointer (some ⟨b, off, none⟩)] (W.drewN n) fun e w' => e = .returned (.int .u32 (s : Int)) ∧ ∃ m, w' = W.drewN m :=
  (hsum_any b off s (W.drewN n) (by simpa using hc)).mono fun _ _ ⟨he, hw⟩ => ⟨he, n, hw.symm⟩
theorem quiet_sum (W : World) (A : Option Addr) (c : Nat) (l : List Nat) (n : Nat) (hm : l.length ≤ maxLen) (h : Txt W A l) :
    Calls Try.prog 12 #[.slice A l.length c] (W.drewN n) fun e w' => e = .returned (.int .u32 (sum l : Nat)) ∧ ∃ m, w' = W.drewN m :=
  (sum_any A c l (W.drewN n) hm (h.below (below_drewN (Below.refl _ _) n))).mono fun _ _ ⟨he, hw⟩ => ⟨he, n, hw.symm⟩

set_option maxHeartbeats 4000000 in
theorem crcWrites_walk (a : Option Addr) (ca : Nat) (ls : List (List Nat)) (w : World) (hl : ls.length ≤ 60) (h : Texts w a ls) :
    Calls Try.prog 10 #[.slice a ls.length ca] w fun e w' => e = .returned (.bool true) ∧ Below w.heap.size w w' := by
  have HX := Lib.hid h
  clear h
  obtain ⟨U, hU⟩ : ∃ U, U = upto ls := ⟨_, rfl⟩
  have HU := Lib.hid hU
  obtain ⟨O, hO⟩ : ∃ O, O = only ls := ⟨_, rfl⟩
  have HO := Lib.hid hO
  have hU0 : U 0 = [] := by rw [hU, upto_zero]
  have hO0 : O 0 = 0 := by rw [hO]; rfl
  clear hU hO
  go_enter Try.func10, Try.ntmps10
  go_wp2_with fail
  refine (awake_any _).mono ?_
  rintro e w1 ⟨rfl, hb1⟩
  have hb1' := hb1.size
  have st0 : St w ((w1.alloc (.cells #[.int .u32 0] 38)).alloc (.cells #[.int .u32 0] 38)) w1.heap.size (.slice none 0 0) (U 0) (sum (U 0)) (O 0) := by
    rw [hU0, hO0, sum_nil]
    exact ⟨OwnB.none_, heap_alloc_fst _ _ _, heap_alloc_snd _ _ _, (hb1.alloc hb1.size _).alloc (Nat.le_trans hb1.size (by simp)) _, by simp, hb1.size⟩
  have hu0 : (U 0).length ≤ 1000 := by rw [hU0]; simp
  clear hU0 hO0
  go_wp2_with fail
  go_loopw [6, 18] (fun v i wr => ∃ k : Nat, k ≤ ls.length ∧ i = .int .i64 k ∧ (U k).length ≤ 1000 ∧ St w wr w1.heap.size v (U k) (sum (U k)) (O k)) (fun _ i _ => ls.length - (intOf i).toNat)
  case atStart => exact ⟨0, by omega, rfl, hu0, st0⟩
  case round =>
    clear st0
    obtain ⟨k, hk, rfl, hul, st⟩ := hrel
    obtain ⟨av, cv, hv, hcv1, hcv2, tv⟩ := st.own.txt
    subst hv
    by_cases hkn : k < ls.length
    · obtain ⟨l, hlk⟩ : ∃ l, ls[k]? = some l := ⟨ls[k], List.getElem?_eq_getElem hkn⟩
      obtain ⟨ba, oa, A, c, rfl, hcell0, hc1, hc2, tb⟩ := HX.out k l hlk
      have hcell := (st.bel.cell (p := ⟨ba, oa + k, none⟩) (lt_of_cell hcell0)).trans hcell0
      clear hcell0
      have HLK := Lib.hid hlk
      clear hlk
      by_cases hbig : (U k).length + l.length ≤ 1000
      · have hUs : U (k + 1) = U k ++ l := by rw [HU.out, upto_succ HLK.out]
        have HUS := Lib.hid hUs
        clear hUs
        by_cases hk0 : k = 0
        · have hk0b : ((k : Int) == 0) = true := by rw [beq_iff_eq]; omega
          have HK0 := Lib.hid hk0
          clear hk0
          have hbA := (Below.refl wr.heap.size wr).alloc (Nat.le_refl _) (.cells #[] 5)
          have stA := st.later hbA
          have tb1 := tb.below stA.bel
          go_wp2_with (at_builtin; refine stop ?_)
          refine unstop (wpList_appendB rfl (.tmp 29) (.tmp 30) rfl rfl (OwnB.new (base := wr.heap.size) (Nat.le_refl _)) rfl rfl tb1 (by simp; omega) (by simp) ?_)
          intro v2 w2 hown2 hg2 _
          rw [List.nil_append] at hown2
          have stB := st.later (below_appendB hbA (OwnB.new (base := wr.heap.size) (Nat.le_refl _)) (Nat.le_refl _) hg2)
          obtain ⟨a2, c2, rfl, hc3, hc4, t2⟩ := hown2.txt
          have hlm : l.length ≤ maxLen := by simp only [maxLen]; omega
          have hsl := sum_lt (U k)
          have HW1 := Lib.hid (write_any w1.heap.size 0 (sum (U k)) a2 c2 l w2 hsl hlm stB.h1.cell stB.h1.thawed t2)
          have hmore : more (sum (U k)) l = sum (U (k + 1)) := by rw [HUS.out, more_sum st.own.1]
          rw [hmore] at HW1
          have stC := stB.setH (sum (U (k + 1)))
          have st2 := st.sz
          have ne2 : ∀ b, (Value.slice av (U k).length cv).ownBlock = some b → b < wr.heap.size := fun b e => (st.own.lt b e).2
          have NE2 := Lib.hid ne2
          clear ne2
          have hown3 := hown2.kept (grownBy_set w2 w1.heap.size 0 (.int .u32 (sum (U (k + 1)) : Nat))) (.inr fun e => by have := hown2.lt _ e; have := st.sz; omega)
          clear hg2 hbA stA tb1 t2 stB hmore
          go_wp2_with fail
          refine HW1.out.mono ?_
          rintro e w' ⟨rfl, rfl⟩
          clear HW1 hown2
          generalize w2.setCell ⟨w1.heap.size, 0, none⟩ (.int .u32 (sum (U (k + 1)) : Nat)) = w3 at *
          go_wp2_with fail
          refine (write_none A c l.length w3).mono ?_
          rintro e w' ⟨rfl, rfl⟩
          have stD0 := stC.setO (sum l)
          have hown4 := hown3.kept (grownBy_set w3 (w1.heap.size + 1) 0 (.int .u32 (sum l : Nat))) (.inr fun e => by have := hown3.lt _ e; have := st.sz; omega)
          have hO1 : sum l = O (k + 1) := by
            have hlk := HLK.out
            rw [HK0.out] at hlk
            rw [HO.out, HK0.out]
            have e : ls.headD [] = l := by rcases ls with _ | ⟨x, r⟩ <;> simp at hlk ⊢; exact hlk
            show sum l = if (1 : Nat) = 0 then 0 else sum (ls.headD [])
            rw [if_neg (by decide), e]
          have HW2 := Lib.hid (write_any (w1.heap.size + 1) 0 0 A c l w3 (by decide) hlm (by have := stC.h2.cell; rw [HO.out, HK0.out] at this; exact this) stC.h2.thawed (tb.below stC.bel))
          rw [show more 0 l = sum l from rfl] at HW2
          go_wp2_with fail
          refine HW2.out.mono ?_
          rintro e w' ⟨rfl, rfl⟩
          have stD : St w (w3.setCell ⟨w1.heap.size + 1, 0, none⟩ (.int .u32 (sum l : Nat))) w1.heap.size (.slice av (U k).length cv) (U k) (sum (U (k + 1))) (O (k + 1)) := by rw [← hO1]; exact stD0
          clear stD0 hO1 HW2 stC hown3
          generalize w3.setCell ⟨w1.heap.size + 1, 0, none⟩ (.int .u32 (sum l : Nat)) = w4 at *
          have HOWN4 := Lib.hid hown4
          have HSTD := Lib.hid stD
          clear hcell tv st hown4 stD hk0b
          go_wp2_with fail
          go_loopw [10, 43] (fun _ i wx => ∃ (j : Nat) (l' : List Nat), j ≤ l.length ∧ i = .int .i64 j ∧ l'.length = l.length ∧ OwnB wx wr.heap.size (.slice a2 l.length c2) l' ∧ St w wx w1.heap.size (.slice av (U k).length cv) (U k) (sum (U (k + 1))) (O (k + 1))) (fun _ i _ => l.length - (intOf i).toNat)
          case atStart => exact ⟨0, l, by omega, rfl, rfl, HOWN4.out, HSTD.out⟩
          case round =>
            clear HOWN4 HSTD
            obtain ⟨j, l', hj, rfl, hl', hown, stx⟩ := hrel
            have HL' := Lib.hid hl'
            clear hl'
            by_cases hjl : j < l.length
            · obtain ⟨g2, c2', hform, _, _, hg2b, _⟩ := hown.form (by rw [HL'.out]; omega)
              obtain ⟨rfl, rfl⟩ : a2 = some ⟨g2, 0, none⟩ ∧ c2 = c2' := by
                injection hform with e1 e2 e3
                exact ⟨e1, e3⟩
              have c0 := hown.cell (i := j) (List.getElem?_eq_getElem (by rw [HL'.out]; exact hjl))
              have f0 := hown.thawed j
              have hown' := hown.set j 7 (by decide)
              have stx' := stx.setOwn (b := g2) (by have := st2; omega) (fun e => by have := stx.own.lt g2 e; have := NE2.out g2 e; omega) j (.int .u8 ((7 : Nat) : Int))
              clear hown stx hform
              go_wp2
              go_roundw
              case rel => exact ⟨j + 1, _, by omega, by go_num, by rw [List.length_set, HL'.out], hown', stx'⟩
              case measure => simp [intOf]; omega
            · have tbx := tb.below stx.bel
              have hoU := stx.own
              go_wp2_with (at_builtin; refine stop ?_)
              refine unstop (wpList_appendB rfl (.tmp 50) (.tmp 51) rfl rfl hoU rfl rfl tbx (by omega) stx.sz ?_)
              intro v5 w5 hown5 hg5 _
              have stE := stx.grow hg5 hown5
              rw [← HUS.out] at stE
              have hul5 : (U (k + 1)).length ≤ 1000 := by rw [HUS.out, List.length_append]; omega
              obtain ⟨a5, c5, rfl, _, _, t5⟩ := stE.own.txt
              have HE := Lib.hid stE
              have HQ1 := Lib.hid (hsum_any w1.heap.size 0 (sum (U (k + 1))) w5 stE.h1.cell)
              have HQ2 := Lib.hid (sum_any a5 c5 (U (k + 1)) w5 (by simp only [maxLen]; omega) t5)
              clear tbx hoU hown5 hg5 stE t5 hown stx
              generalize hu5 : U (k + 1) = u5 at *
              have HU5 := Lib.hid hu5
              clear hu5
              generalize hs5 : sum u5 = s5 at *
              have HS5 := Lib.hid hs5
              clear hs5
              go_wp2_with fail
              refine HQ1.out.mono ?_
              rintro e w' ⟨rfl, rfl⟩
              go_wp2_with fail
              refine HQ2.out.mono ?_
              rintro e w' ⟨rfl, rfl⟩
              go_wp2_with fail
              refine HQ1.out.mono ?_
              rintro e w' ⟨rfl, rfl⟩
              go_wp2_with fail
              refine HQ2.out.mono ?_
              rintro e w' ⟨rfl, rfl⟩
              go_wp2_with fail
              go_roundw
              case rel => exact ⟨k + 1, by omega, by go_num, by rw [HU5.out]; exact hul5, by rw [HU5.out, HS5.out]; exact HE.out⟩
              case measure => simp [intOf]; omega
        · have hk0b : ((k : Int) == 0) = false := by rw [beq_eq_false_iff_ne]; omega
          have hbA := (Below.refl wr.heap.size wr).alloc (Nat.le_refl _) (.cells #[] 5)
          have stA := st.later hbA
          have tb1 := tb.below stA.bel
          go_wp2_with (at_builtin; refine stop ?_)
          refine unstop (wpList_appendB rfl (.tmp 29) (.tmp 30) rfl rfl (OwnB.new (base := wr.heap.size) (Nat.le_refl _)) rfl rfl tb1 (by simp; omega) (by simp) ?_)
          intro v2 w2 hown2 hg2 _
          rw [List.nil_append] at hown2
          have stB := st.later (below_appendB hbA (OwnB.new (base := wr.heap.size) (Nat.le_refl _)) (Nat.le_refl _) hg2)
          obtain ⟨a2, c2, rfl, hc3, hc4, t2⟩ := hown2.txt
          have hlm : l.length ≤ maxLen := by simp only [maxLen]; omega
          have hsl := sum_lt (U k)
          have HW1 := Lib.hid (write_any w1.heap.size 0 (sum (U k)) a2 c2 l w2 hsl hlm stB.h1.cell stB.h1.thawed t2)
          have hmore : more (sum (U k)) l = sum (U (k + 1)) := by rw [HUS.out, more_sum st.own.1]
          rw [hmore] at HW1
          have stC := stB.setH (sum (U (k + 1)))
          have st2 := st.sz
          have ne2 : ∀ b, (Value.slice av (U k).length cv).ownBlock = some b → b < wr.heap.size := fun b e => (st.own.lt b e).2
          have NE2 := Lib.hid ne2
          clear ne2
          have hown3 := hown2.kept (grownBy_set w2 w1.heap.size 0 (.int .u32 (sum (U (k + 1)) : Nat))) (.inr fun e => by have := hown2.lt _ e; have := st.sz; omega)
          clear hg2 hbA stA tb1 t2 stB hmore
          go_wp2_with fail
          refine HW1.out.mono ?_
          rintro e w' ⟨rfl, rfl⟩
          clear HW1 hown2
          generalize w2.setCell ⟨w1.heap.size, 0, none⟩ (.int .u32 (sum (U (k + 1)) : Nat)) = w3 at *
          go_wp2_with fail
          refine (write_none A c l.length w3).mono ?_
          rintro e w' ⟨rfl, rfl⟩
          have stD : St w w3 w1.heap.size (.slice av (U k).length cv) (U k) (sum (U (k + 1))) (O (k + 1)) := by
            have e : O (k + 1) = O k := by
              rw [HO.out]
              show (if k + 1 = 0 then 0 else sum (ls.headD [])) = if k = 0 then 0 else sum (ls.headD [])
              rw [if_neg hk0, if_neg (by omega)]
            rw [e]; exact stC
          have hown4 := hown3
          clear stC hown3
          have HOWN4 := Lib.hid hown4
          have HSTD := Lib.hid stD
          clear hcell tv st hown4 stD hk0b
          go_wp2_with fail
          go_loopw [10, 43] (fun _ i wx => ∃ (j : Nat) (l' : List Nat), j ≤ l.length ∧ i = .int .i64 j ∧ l'.length = l.length ∧ OwnB wx wr.heap.size (.slice a2 l.length c2) l' ∧ St w wx w1.heap.size (.slice av (U k).length cv) (U k) (sum (U (k + 1))) (O (k + 1))) (fun _ i _ => l.length - (intOf i).toNat)
          case atStart => exact ⟨0, l, by omega, rfl, rfl, HOWN4.out, HSTD.out⟩
          case round =>
            clear HOWN4 HSTD
            obtain ⟨j, l', hj, rfl, hl', hown, stx⟩ := hrel
            have HL' := Lib.hid hl'
            clear hl'
            by_cases hjl : j < l.length
            · obtain ⟨g2, c2', hform, _, _, hg2b, _⟩ := hown.form (by rw [HL'.out]; omega)
              obtain ⟨rfl, rfl⟩ : a2 = some ⟨g2, 0, none⟩ ∧ c2 = c2' := by
                injection hform with e1 e2 e3
                exact ⟨e1, e3⟩
              have c0 := hown.cell (i := j) (List.getElem?_eq_getElem (by rw [HL'.out]; exact hjl))
              have f0 := hown.thawed j
              have hown' := hown.set j 7 (by decide)
              have stx' := stx.setOwn (b := g2) (by have := st2; omega) (fun e => by have := stx.own.lt g2 e; have := NE2.out g2 e; omega) j (.int .u8 ((7 : Nat) : Int))
              clear hown stx hform
              go_wp2
              go_roundw
              case rel => exact ⟨j + 1, _, by omega, by go_num, by rw [List.length_set, HL'.out], hown', stx'⟩
              case measure => simp [intOf]; omega
            · have tbx := tb.below stx.bel
              have hoU := stx.own
              go_wp2_with (at_builtin; refine stop ?_)
              refine unstop (wpList_appendB rfl (.tmp 50) (.tmp 51) rfl rfl hoU rfl rfl tbx (by omega) stx.sz ?_)
              intro v5 w5 hown5 hg5 _
              have stE := stx.grow hg5 hown5
              rw [← HUS.out] at stE
              have hul5 : (U (k + 1)).length ≤ 1000 := by rw [HUS.out, List.length_append]; omega
              obtain ⟨a5, c5, rfl, _, _, t5⟩ := stE.own.txt
              have HE := Lib.hid stE
              have HQ1 := Lib.hid (hsum_any w1.heap.size 0 (sum (U (k + 1))) w5 stE.h1.cell)
              have HQ2 := Lib.hid (sum_any a5 c5 (U (k + 1)) w5 (by simp only [maxLen]; omega) t5)
              clear tbx hoU hown5 hg5 stE t5 hown stx
              generalize hu5 : U (k + 1) = u5 at *
              have HU5 := Lib.hid hu5
              clear hu5
              generalize hs5 : sum u5 = s5 at *
              have HS5 := Lib.hid hs5
              clear hs5
              go_wp2_with fail
              refine HQ1.out.mono ?_
              rintro e w' ⟨rfl, rfl⟩
              go_wp2_with fail
              refine HQ2.out.mono ?_
              rintro e w' ⟨rfl, rfl⟩
              go_wp2_with fail
              refine HQ1.out.mono ?_
              rintro e w' ⟨rfl, rfl⟩
              go_wp2_with fail
              refine HQ2.out.mono ?_
              rintro e w' ⟨rfl, rfl⟩
              go_wp2_with fail
              go_roundw
              case rel => exact ⟨k + 1, by omega, by go_num, by rw [HU5.out]; exact hul5, by rw [HU5.out, HS5.out]; exact HE.out⟩
              case measure => simp [intOf]; omega
      · go_wp2_with fail
        go_ret
        exact ⟨rfl, st.bel⟩
    · obtain rfl : k = ls.length := by omega
      have HSUM0 := Lib.hid (fun n => (hsum_none (wr.drewN n)))
      have bel := st.bel
      by_cases hn : ls.length = 0
      · have hz1 : ((ls.length : Int) == 0) = true := by rw [beq_iff_eq]; omega
        have hz2 : ls = [] := List.eq_nil_of_length_eq_zero hn
        subst hz2
        clear tv st
        go_wp2
        go_quiet ((go_at_call 17; exact quiet_none _ _))
        go_wp2
        go_ret
        exact ⟨rfl, below_drewN bel _⟩
      · have hz1 : ((ls.length : Int) == 0) = false := by rw [beq_eq_false_iff_ne]; omega
        have hz2 : ¬ ls = [] := by rintro rfl; simp at hn
        obtain ⟨l, hlk⟩ : ∃ l, ls[0]? = some l := ⟨ls[0]'(by omega), List.getElem?_eq_getElem _⟩
        obtain ⟨ba, oa, A, c, rfl, hcell0, hc1, hc2, tb⟩ := HX.out 0 l hlk
        have hcell := (st.bel.cell (p := ⟨ba, oa + 0, none⟩) (lt_of_cell hcell0)).trans hcell0
        rw [Nat.add_zero] at hcell
        have hO1 : O ls.length = sum l := by
          rw [HO.out]
          show (if ls.length = 0 then 0 else sum (ls.headD [])) = sum l
          rw [if_neg hn]
          congr 1
          rcases ls with _ | ⟨x, r⟩
          · simp at hn
          · simpa using hlk
        have h2 := st.h2.cell
        rw [hO1] at h2
        have hl1 : l.length ≤ maxLen := by simp only [maxLen]; omega
        have tw := tb.below bel
        have HQ1 := Lib.hid (fun n => quiet_hsum wr (w1.heap.size + 1) 0 (sum l) n h2)
        have HQ2 := Lib.hid (fun n => quiet_sum wr A c l n hl1 tw)
        clear tv st hcell0 tb tw h2 hO1 hlk hk
        generalize sum l = s1 at *
        go_wp2
        go_quiet (first | (go_at_call 17; exact quiet_none _ _) | (go_at_call 17; exact HQ1.out _) | (go_at_call 12; exact HQ2.out _))
        go_wp2
        go_ret
        exact ⟨rfl, below_drewN bel _⟩

set_option maxHeartbeats 1000000 in
theorem crcWrites_all (a : Option Addr) (ca : Nat) (ls : List (List Nat)) (w : World) (hm : ls.length ≤ maxLen) (h : Texts w a ls) :
    Calls Try.prog 10 #[.slice a ls.length ca] w fun e w' => e = .returned (.bool true) ∧ Below w.heap.size w w' := by
  by_cases h2 : ls.length ≤ 60
  · exact crcWrites_walk a ca ls w h2 h
  · unfold maxLen at hm
    go_enter Try.func10, Try.ntmps10
    go_wp2_with fail
    refine (awake_any _).mono ?_
    rintro e w1 ⟨rfl, hb1⟩
    go_wp2_with fail
    go_ret
    exact ⟨rfl, hb1⟩

end Go.Proofs.Ytfmphffnhmokbaa
