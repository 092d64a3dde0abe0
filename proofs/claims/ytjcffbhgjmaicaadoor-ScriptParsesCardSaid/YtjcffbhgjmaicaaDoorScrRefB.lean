/-
  Layer 55 (script), the document's answer: a line at its blanks; a word's number.
-/
import Derived.Test.YtjcffbhgjmaicaaDoorScrRefA
import Derived.Test.YtjcffbhgjmaicaaDoorScrParseW
namespace Go.Proofs.YtjcffbhgjmaicaaDoor
open Go.RowKit
open Script

/-- The slice value v owns a row of words. -/
def OwnW (w : World) (base : Nat) (v : Value) (ls : List (List UInt8)) : Prop := w.ownsRow base 9 1 v ls.length (ls.map fun x => Value.string ⟨⟨x⟩⟩)

theorem OwnW.later {w w' : World} {base : Nat} {v : Value} {l : List (List UInt8)} (h : OwnW w base v l) (hb : Below w.heap.size w w') : OwnW w' base v l := by
  refine World.ownsRow.kept (row := none) h ⟨hb.os, hb.tape, hb.output, hb.size, fun k hk _ => hb.block k hk⟩ ?_
  cases hv : v.ownBlock <;> simp

theorem OwnW.strs {w : World} {base : Nat} {v : Value} {l : List (List UInt8)} (h : OwnW w base v l) : ∃ a c, v = .slice a l.length c ∧ l.length ≤ c ∧ c ≤ maxLen ∧ Strs w a (l.map fun x => ⟨⟨x⟩⟩) := by
  obtain ⟨a, c, rfl, h1, h2⟩ := ownsRow_form h
  refine ⟨a, c, rfl, h1, h2, ?_⟩
  unfold Strs
  rw [List.map_map]
  exact Row.own h

theorem wpList_appendW {w : World} {ops : Array Oper} {rest : List Oper} {o : Oper} {a : Act} {Q : Exit → Act → World → Prop} (hgd : o.guard = none) (s x : Operand)
    (ho : o.op = .call { callee := .builtin .append, args := #[s, x], argTypes := #[77, 77] })
    {base : Nat} {v : Value} {l : List (List UInt8)} (hs : a.eval s = v) (hown : OwnW w base v l)
    {A : Option Addr} {c : Nat} {m : List UInt8} (hx : a.eval x = .slice A 1 c) (ht : Row w A [.string ⟨⟨m⟩⟩])
    (hlen : l.length ≤ 1000000000) (hbase : base ≤ w.heap.size)
    (h : ∀ v' w', OwnW w' base v' (l ++ [m]) → w.grownBy w' v.ownBlock → wpList Tryd.prog ops Q rest (a.put o.dst v') w') : wpList Tryd.prog ops Q (o :: rest) a w := by
  obtain ⟨i0, hi0, hz0, hz1, hz2⟩ := info_parts infoStr
  refine wpList_append_row w hgd s x _ ho base 9 i0 _ 1 16 Tryd.underlying77 hi0 hz0 hz1 hz2 rfl (by omega) v l.length (l.map fun x => Value.string ⟨⟨x⟩⟩) hs hown A 1 c [.string ⟨⟨m⟩⟩] hx (by simp) ht (by simp [Value.oneCell']) (by simp only [maxLen]; omega) (by omega) hbase ?_
  intro v' w' h1 h2 h3
  refine h v' w' ?_ h2
  unfold OwnW
  rw [List.map_append, List.length_append]
  exact h1

/-- While a line is cut: the words so far, where the next one begins, where one looks. -/
def CutRel (w : World) (l : List UInt8) (n : Nat) (v f i : Value) (wr : World) : Prop :=
  ∃ (W : List (List UInt8)) (p j : Nat), f = .int .i64 (p : Int) ∧ i = .int .i64 (j : Int) ∧ OwnW wr w.heap.size v W ∧ Below w.heap.size w wr ∧ W.length ≤ j ∧
    ((j ≤ n ∧ p ≤ j ∧ splitB l = W ++ splitB (l.drop p) ∧ ∀ c ∈ (l.drop p).take (j - p), c ≠ 32) ∨ (j = n + 1 ∧ p = n + 1 ∧ splitB l = W))

theorem drop_at {l : List UInt8} {p j : Nat} {c : UInt8} (hp : p ≤ j) (hc : l[j]? = some c) : l.drop p = (l.drop p).take (j - p) ++ c :: l.drop (j + 1) := by
  have h1 := (List.take_append_drop (j - p) (l.drop p)).symm
  have h2 : (l.drop p).drop (j - p) = l.drop j := by rw [List.drop_drop]; congr 1; omega
  have hj := (List.getElem?_eq_some_iff.1 hc)
  have h3 : l.drop j = c :: l.drop (j + 1) := by
    obtain ⟨hlt, e⟩ := hj
    rw [List.drop_eq_getElem_cons hlt, e]
  rw [h2, h3] at h1
  exact h1

set_option maxRecDepth 100000 in
set_option maxHeartbeats 4000000 in
theorem words_any (l : List UInt8) (w : World) (hl : l.length ≤ 1000000) : Calls Tryd.prog 37 #[.string ⟨⟨l⟩⟩] w fun e w' => ∃ v, e = .returned v ∧ OwnW w' w.heap.size v (splitB l) ∧ Below w.heap.size w w' := by
  have HSZ : Hid ((ByteArray.mk ⟨l⟩).size = l.length) := rfl
  obtain ⟨n, hn⟩ : ∃ n, n = l.length := ⟨_, rfl⟩
  have HN := Lib.hid hn
  have hsz : (ByteArray.mk ⟨l⟩).size = n := by rw [HSZ.out, hn]
  rw [← hn] at hl
  clear hn HSZ
  go_enter Tryd.func37, Tryd.ntmps37
  go_wp2_with fail
  go_loopw [3, 4, 5] (fun v f i wr => CutRel w l n v f i wr) (fun _ _ i _ => n + 1 - (intOf i).toNat)
  case atStart => exact ⟨[], 0, 0, rfl, rfl, World.ownsRow_nil w _ _ 1, Below.refl _ _, Nat.le_refl _, .inl ⟨Nat.zero_le _, Nat.le_refl _, by simp, by simp⟩⟩
  case round =>
    unfold CutRel at hrel
    obtain ⟨W, p, j, rfl, rfl, ho, hb, hWj, hcase⟩ := hrel
    have HO := Lib.hid ho
    have HB := Lib.hid hb
    have HWJ := Lib.hid hWj
    clear ho hb hWj
    rcases hcase with ⟨hj, hp, hs, hno⟩ | ⟨rfl, rfl, hs⟩
    · have HS := Lib.hid hs
      have HNO := Lib.hid hno
      clear hs hno
      by_cases hjn : j < n
      · obtain ⟨c, hc⟩ : ∃ c, l[j]? = some c := ⟨l[j]'(by rw [← HN.out]; exact hjn), List.getElem?_eq_getElem _⟩
        have hat := run_at hc
        have HDA := Lib.hid (drop_at hp hc)
        have hne : ((j : Int) == (n : Int)) = false := by rw [beq_eq_false_iff_ne]; omega
        have hpl := run_piece l p j hp (by rw [← HN.out]; omega)
        clear hc
        by_cases h32 : c = 32
        · subst h32
          have h32n : (32 : UInt8).toNat = 32 := rfl
          rw [h32n] at hat
          clear h32n
          obtain ⟨wd, hwd⟩ : ∃ wd, wd = (l.drop p).take (j - p) := ⟨_, rfl⟩
          have HWD := Lib.hid hwd
          rw [← hwd] at hpl
          clear hwd
          go_wp2_with (at_builtin; refine stop ?_)
          have hal := (Below.refl wr.heap.size wr).alloc (Nat.le_refl _) (.cells #[.string ⟨⟨wd⟩⟩] 9)
          have ho1 := HO.out.later hal
          have hb1 := HB.out.alloc HB.out.size (.cells #[.string ⟨⟨wd⟩⟩] 9)
          refine unstop (wpList_appendW rfl (.tmp 22) (.tmp 27) rfl rfl ho1 rfl (row_new wr _ #[.string ⟨⟨wd⟩⟩]) (by have := HWJ.out; omega) hb1.size ?_)
          intro v2 w2 h2 hg2
          have hb2 := below_append hb1 ho1 (Nat.le_refl _) hg2
          have H2 := Lib.hid h2
          have HB2 := Lib.hid hb2
          clear hal ho1 hb1 hg2 h2 hb2
          go_wp2_with fail
          go_roundw
          case rel =>
            unfold CutRel
            refine ⟨W ++ [wd], j + 1, j + 1, by go_num, by go_num, H2.out, HB2.out, by have := HWJ.out; simp; omega, .inl ⟨by omega, Nat.le_refl _, ?_, by simp⟩⟩
            rw [HS.out, List.append_assoc]
            congr 1
            have h1 := HDA.out
            rw [← HWD.out] at h1
            rw [h1, splitB_blank wd _ (by rw [HWD.out]; exact HNO.out)]
            rfl
          case measure => simp [intOf]; omega
        · have hk : ((c.toNat : Nat) : Int) ≠ 32 := by
            intro h
            apply h32
            apply UInt8.toNat_inj.1
            show c.toNat = 32
            omega
          have hkb : (((c.toNat : Nat) : Int) == 32) = false := by rw [beq_eq_false_iff_ne]; exact hk
          have HNC : Hid (∀ d ∈ (l.drop p).take (j + 1 - p), d ≠ 32) := by
            intro d hd
            have h1 := HDA.out
            have h2 : (l.drop p).take (j + 1 - p) = (l.drop p).take (j - p) ++ [c] := by
              have hlen : ((l.drop p).take (j - p)).length = j - p := by rw [List.length_take, List.length_drop, ← HN.out]; omega
              conv => lhs; rw [h1]
              rw [List.take_append, List.take_of_length_le (by rw [hlen]; omega), hlen, show j + 1 - p - (j - p) = 1 from by omega]
              rfl
            rw [h2] at hd
            rcases List.mem_append.1 hd with hd | hd
            · exact HNO.out d hd
            · rw [List.mem_singleton] at hd
              rw [hd]
              exact h32
          clear hpl h32 hk
          generalize c.toNat = k at *
          go_wp2_with fail
          go_roundw
          case rel =>
            unfold CutRel
            exact ⟨W, p, j + 1, rfl, by go_num, HO.out, HB.out, by have := HWJ.out; omega, .inl ⟨by omega, by omega, HS.out, HNC.out⟩⟩
          case measure => simp [intOf]; omega
      · obtain rfl : n = j := by omega
        have hne : ((n : Int) == (n : Int)) = true := by rw [beq_iff_eq]
        have hpl := run_piece l p n hp (by rw [← HN.out]; exact Nat.le_refl _)
        obtain ⟨wd, hwd⟩ : ∃ wd, wd = (l.drop p).take (n - p) := ⟨_, rfl⟩
        have HWD := Lib.hid hwd
        rw [← hwd] at hpl
        clear hwd
        go_wp2_with (at_builtin; refine stop ?_)
        have hal := (Below.refl wr.heap.size wr).alloc (Nat.le_refl _) (.cells #[.string ⟨⟨wd⟩⟩] 9)
        have ho1 := HO.out.later hal
        have hb1 := HB.out.alloc HB.out.size (.cells #[.string ⟨⟨wd⟩⟩] 9)
        refine unstop (wpList_appendW rfl (.tmp 22) (.tmp 27) rfl rfl ho1 rfl (row_new wr _ #[.string ⟨⟨wd⟩⟩]) (by have := HWJ.out; omega) hb1.size ?_)
        intro v2 w2 h2 hg2
        have hb2 := below_append hb1 ho1 (Nat.le_refl _) hg2
        have H2 := Lib.hid h2
        have HB2 := Lib.hid hb2
        clear hal ho1 hb1 hg2 h2 hb2
        go_wp2_with fail
        go_roundw
        case rel =>
          unfold CutRel
          refine ⟨W ++ [wd], n + 1, n + 1, by go_num, by go_num, H2.out, HB2.out, by have := HWJ.out; simp; omega, .inr ⟨rfl, rfl, ?_⟩⟩
          have e : wd = l.drop p := by rw [HWD.out, List.take_of_length_le (by rw [List.length_drop, ← HN.out]; exact Nat.le_refl _)]
          have hno := HNO.out
          rw [← HWD.out] at hno
          rw [HS.out, ← e, splitB_word wd hno]
        case measure => simp [intOf]
    · have HS := Lib.hid hs
      clear hs
      go_wp2_with fail
      go_ret
      exact ⟨_, rfl, by rw [HS.out]; exact HO.out, HB.out⟩

/-! ### Numbers -/

/-- The number that digits spell, unless one is none or it grows too great. -/
def valR : Nat → List UInt8 → Option Nat
  | acc, [] => some acc
  | acc, c :: r => if c.toNat < 48 ∨ 57 < c.toNat ∨ 1000000000 < acc then none else valR (10 * acc + (c.toNat - 48)) r

def bodyR (l : List UInt8) : List UInt8 := if l.head? = some 45 then l.tail else l
def signR (l : List UInt8) (u : Nat) : Int := if l.head? = some 45 then -(u : Int) else (u : Int)

/-- A word's number, if it is written as numbers are. -/
def numR (l : List UInt8) : Option Int := match valR 0 (bodyR l) with
  | none => none
  | some u => if l ≠ [] ∧ Lib.itoa (signR l u) = l then some (signR l u) else none

def NumResR (r : Option Int) (e : Ending) : Prop :=
  match r with
  | none => ∃ x : Int, e = .returned (.tuple #[.int .i64 x, .bool false])
  | some x => e = .returned (.tuple #[.int .i64 x, .bool true])

theorem valR_le : ∀ (l : List UInt8) (acc u : Nat), acc ≤ 10000000009 → valR acc l = some u → u ≤ 10000000009
  | [], acc, u, h, e => by simp [valR] at e; omega
  | c :: r, acc, u, h, e => by
    unfold valR at e
    split at e
    · cases e
    · exact valR_le r _ u (by omega) e

theorem beq_strs (a b : List UInt8) : ((ByteArray.mk a.toArray).toList == (ByteArray.mk ⟨b⟩).toList) = decide (a = b) := by
  rw [bytes_toList, bytes_toList]
  show (a == b) = _
  rw [Bool.eq_iff_iff, beq_iff_eq, decide_eq_true_iff]

set_option maxHeartbeats 4000000 in
/-- The number of a word. -/
theorem number_any (l : List UInt8) (w : World) (hl : l.length ≤ 1000000) : Calls Tryd.prog 39 #[.string ⟨⟨l⟩⟩] w fun e w' => NumResR (numR l) e ∧ w' = w := by
  have HSZ : Hid ((ByteArray.mk ⟨l⟩).size = l.length) := rfl
  obtain ⟨n, hn⟩ : ∃ n, n = l.length := ⟨_, rfl⟩
  have HN := Lib.hid hn
  have hsz : (ByteArray.mk ⟨l⟩).size = n := by rw [HSZ.out, hn]
  rw [← hn] at hl
  obtain ⟨R, hR⟩ : ∃ R, R = numR l := ⟨_, rfl⟩
  have HR := Lib.hid hR
  rw [← hR]
  obtain ⟨S, hS⟩ : ∃ S, S = ByteArray.mk ⟨l⟩ := ⟨_, rfl⟩
  have HS := Lib.hid hS
  rw [← hS] at hsz ⊢
  clear HSZ hn hR hS
  rcases Nat.eq_zero_or_pos n with hz | hp
  · have hl0 : l = [] := List.eq_nil_of_length_eq_zero (by rw [← HN.out]; exact hz)
    have HX : Hid (R = none) := by show _ = _; rw [HR.out, hl0]; rfl
    have hpos : ¬ (0 : Int) < (n : Int) := by omega
    have hz0 : ¬ 0 < n := by omega
    subst hz
    clear hl0
    go_enter Tryd.func39, Tryd.ntmps39
    go_wp2_with fail
    go_loop [4, 6] (fun a i => a = .int .i64 0 ∧ i = .int .i64 0) (fun _ i => 0)
    case atStart => exact ⟨rfl, rfl⟩
    case round =>
      obtain ⟨rfl, rfl⟩ := hrel
      go_wp2_with fail
      go_ret2
      exact ⟨by rw [HX.out]; exact ⟨_, rfl⟩, rfl⟩
  have hpos : (0 : Int) < (n : Int) := by omega
  obtain ⟨c0, hc0⟩ : ∃ c, l[0]? = some c := ⟨l[0]'(by rw [← HN.out]; exact hp), List.getElem?_eq_getElem _⟩
  have hat0 : ∀ V : World, (Instr.index 9 (.string ⟨⟨l⟩⟩) (.int .i64 0)).run Tryd.prog V = .ok (.int .u8 ((c0.toNat : Nat) : Int)) V := run_at hc0
  rw [← HS.out] at hat0
  have HNE : Hid (l ≠ []) := by intro h; rw [h] at hc0; cases hc0
  have HHD : Hid (l.head? = some c0) := by show _ = _; rw [List.head?_eq_getElem?]; exact hc0
  clear hc0
  by_cases h45 : c0 = 45
  · subst h45
    rw [show ((45 : UInt8).toNat : Int) = 45 from rfl] at hat0
    have HBR : Hid (bodyR l = l.drop 1) := by show _ = _; unfold bodyR; rw [if_pos HHD.out, List.drop_one]
    have HSG : Hid (∀ u, signR l u = -(u : Int)) := fun u => by unfold signR; rw [if_pos HHD.out]
    go_enter Tryd.func39, Tryd.ntmps39
    go_wp2_with fail
    go_loop [4, 6] (fun a i => ∃ (acc j : Nat), 1 ≤ j ∧ j ≤ n ∧ a = .int .i64 (acc : Int) ∧ i = .int .i64 (j : Int) ∧ acc ≤ 10000000009 ∧ valR 0 (l.drop 1) = valR acc (l.drop j)) (fun _ i => n - (intOf i).toNat)
    case atStart => exact ⟨0, 1, Nat.le_refl _, by omega, rfl, rfl, by omega, rfl⟩
    case round =>
      obtain ⟨acc, j, hqj, hj, rfl, rfl, hacc, hv⟩ := hrel
      have HV := Lib.hid hv
      clear hv
      by_cases hjn : j < n
      · obtain ⟨c, hc⟩ : ∃ c, l[j]? = some c := ⟨l[j]'(by rw [← HN.out]; exact hjn), List.getElem?_eq_getElem _⟩
        have hat := run_at hc
        rw [← HS.out] at hat
        have hdr : l.drop j = c :: l.drop (j + 1) := by
          obtain ⟨hlt, e⟩ := List.getElem?_eq_some_iff.1 hc
          rw [List.drop_eq_getElem_cons hlt, e]
        have HV2 : Hid (valR 0 (l.drop 1) = if c.toNat < 48 ∨ 57 < c.toNat ∨ 1000000000 < acc then none else valR (10 * acc + (c.toNat - 48)) (l.drop (j + 1))) := by show _ = _; rw [HV.out, hdr]; rfl
        have hc256 : c.toNat < 256 := c.toNat_lt
        clear hc hdr HV
        generalize c.toNat = k at *
        have HBAD : Hid (k < 48 ∨ 57 < k ∨ 1000000000 < acc → R = none) := by
          intro h
          rw [HR.out]
          unfold numR
          rw [HBR.out, HV2.out, if_pos h]
        by_cases h1 : k < 48
        · have HNO := Lib.hid (HBAD.out (.inl h1))
          have i1 : (k : Int) < 48 := by omega
          clear h1
          go_wp2_with fail
          go_ret2
          exact ⟨by rw [HNO.out]; exact ⟨_, rfl⟩, rfl⟩
        · have i1 : ¬ (k : Int) < 48 := by omega
          by_cases h2 : 57 < k
          · have HNO := Lib.hid (HBAD.out (.inr (.inl h2)))
            have i2 : (57 : Int) < (k : Int) := by omega
            clear h1 h2
            go_wp2_with fail
            go_ret2
            exact ⟨by rw [HNO.out]; exact ⟨_, rfl⟩, rfl⟩
          · have i2 : ¬ (57 : Int) < (k : Int) := by omega
            by_cases h3 : 1000000000 < acc
            · have HNO := Lib.hid (HBAD.out (.inr (.inr h3)))
              have i3 : (1000000000 : Int) < (acc : Int) := by omega
              clear h1 h2 h3
              go_wp2_with fail
              go_ret2
              exact ⟨by rw [HNO.out]; exact ⟨_, rfl⟩, rfl⟩
            · have i3 : ¬ (1000000000 : Int) < (acc : Int) := by omega
              have HOK : Hid (valR 0 (l.drop 1) = valR (10 * acc + (k - 48)) (l.drop (j + 1))) := by show _ = _; rw [HV2.out, if_neg (by omega)]
              have hk48 : 48 ≤ k := by omega
              have hk57 : k ≤ 57 := by omega
              have ha9 : acc ≤ 1000000000 := by omega
              clear h1 h2 h3 HBAD HV2
              go_wp2_with fail
              go_round
              case rel => exact ⟨10 * acc + (k - 48), j + 1, by omega, by omega, by go_num, by go_num, by omega, HOK.out⟩
              case measure => simp [intOf]; omega
      · obtain rfl : n = j := by omega
        have HU : Hid (valR 0 (bodyR l) = some acc) := by show _ = _; rw [HBR.out, HV.out, List.drop_of_length_le (by rw [← HN.out]; exact Nat.le_refl _)]; rfl
        have HX : Hid (R = if Lib.itoa (-(acc : Int)) = l then some (-(acc : Int)) else none) := by
          show _ = _
          rw [HR.out]
          unfold numR
          rw [HU.out]
          simp only
          rw [show signR l acc = -(acc : Int) from HSG.out acc]
          by_cases he : Lib.itoa (-(acc : Int)) = l
          · rw [if_pos ⟨HNE.out, he⟩, if_pos he]
          · rw [if_neg (fun h => he h.2), if_neg he]
        have HD := Lib.hid (digits_any (-(acc : Int)) (by omega) (by omega) w)
        have hpos : (0 : Int) < (n : Int) := by omega
        obtain ⟨D, hD⟩ : ∃ D, D = ByteArray.mk (Lib.itoa (-(acc : Int))).toArray := ⟨_, rfl⟩
        have HDD := Lib.hid hD
        rw [← hD] at HD
        have hbe : (D.toList == S.toList) = decide (Lib.itoa (-(acc : Int)) = l) := by rw [hD, HS.out]; exact beq_strs _ _
        clear hD HV HU
        by_cases he : Lib.itoa (-(acc : Int)) = l
        · have HX2 : Hid (R = some (-(acc : Int))) := by show _ = _; rw [HX.out, if_pos he]
          rw [decide_eq_true he] at hbe
          clear he HX
          go_wp2_with fail
          refine HD.out.mono ?_
          rintro e w1 ⟨rfl, rfl⟩
          go_wp2_with fail
          go_ret2
          exact ⟨by rw [HX2.out]; rfl, rfl⟩
        · have HX2 : Hid (R = none) := by show _ = _; rw [HX.out, if_neg he]
          rw [decide_eq_false he] at hbe
          clear he HX
          go_wp2_with fail
          refine HD.out.mono ?_
          rintro e w1 ⟨rfl, rfl⟩
          go_wp2_with fail
          go_ret2
          exact ⟨by rw [HX2.out]; exact ⟨_, rfl⟩, rfl⟩
  · have hk : ((c0.toNat : Nat) : Int) ≠ 45 := by
      intro h
      apply h45
      apply UInt8.toNat_inj.1
      show c0.toNat = 45
      omega
    have hkb : (((c0.toNat : Nat) : Int) == 45) = false := by rw [beq_eq_false_iff_ne]; exact hk
    have HBR : Hid (bodyR l = l.drop 0) := by
      show _ = _
      unfold bodyR
      rw [if_neg (by rw [HHD.out]; intro h; injection h with h; exact h45 h), List.drop_zero]
    have HSG : Hid (∀ u, signR l u = (u : Int)) := fun u => by unfold signR; rw [if_neg (by rw [HHD.out]; intro h; injection h with h; exact h45 h)]
    clear h45 hk HHD
    generalize c0.toNat = k0 at *
    go_enter Tryd.func39, Tryd.ntmps39
    go_wp2_with fail
    go_loop [4, 6] (fun a i => ∃ (acc j : Nat), 0 ≤ j ∧ j ≤ n ∧ a = .int .i64 (acc : Int) ∧ i = .int .i64 (j : Int) ∧ acc ≤ 10000000009 ∧ valR 0 (l.drop 0) = valR acc (l.drop j)) (fun _ i => n - (intOf i).toNat)
    case atStart => exact ⟨0, 0, Nat.le_refl _, by omega, rfl, rfl, by omega, rfl⟩
    case round =>
      obtain ⟨acc, j, hqj, hj, rfl, rfl, hacc, hv⟩ := hrel
      have HV := Lib.hid hv
      clear hv
      by_cases hjn : j < n
      · obtain ⟨c, hc⟩ : ∃ c, l[j]? = some c := ⟨l[j]'(by rw [← HN.out]; exact hjn), List.getElem?_eq_getElem _⟩
        have hat := run_at hc
        rw [← HS.out] at hat
        have hdr : l.drop j = c :: l.drop (j + 1) := by
          obtain ⟨hlt, e⟩ := List.getElem?_eq_some_iff.1 hc
          rw [List.drop_eq_getElem_cons hlt, e]
        have HV2 : Hid (valR 0 (l.drop 0) = if c.toNat < 48 ∨ 57 < c.toNat ∨ 1000000000 < acc then none else valR (10 * acc + (c.toNat - 48)) (l.drop (j + 1))) := by show _ = _; rw [HV.out, hdr]; rfl
        have hc256 : c.toNat < 256 := c.toNat_lt
        clear hc hdr HV
        generalize c.toNat = k at *
        have HBAD : Hid (k < 48 ∨ 57 < k ∨ 1000000000 < acc → R = none) := by
          intro h
          rw [HR.out]
          unfold numR
          rw [HBR.out, HV2.out, if_pos h]
        by_cases h1 : k < 48
        · have HNO := Lib.hid (HBAD.out (.inl h1))
          have i1 : (k : Int) < 48 := by omega
          clear h1
          go_wp2_with fail
          go_ret2
          exact ⟨by rw [HNO.out]; exact ⟨_, rfl⟩, rfl⟩
        · have i1 : ¬ (k : Int) < 48 := by omega
          by_cases h2 : 57 < k
          · have HNO := Lib.hid (HBAD.out (.inr (.inl h2)))
            have i2 : (57 : Int) < (k : Int) := by omega
            clear h1 h2
            go_wp2_with fail
            go_ret2
            exact ⟨by rw [HNO.out]; exact ⟨_, rfl⟩, rfl⟩
          · have i2 : ¬ (57 : Int) < (k : Int) := by omega
            by_cases h3 : 1000000000 < acc
            · have HNO := Lib.hid (HBAD.out (.inr (.inr h3)))
              have i3 : (1000000000 : Int) < (acc : Int) := by omega
              clear h1 h2 h3
              go_wp2_with fail
              go_ret2
              exact ⟨by rw [HNO.out]; exact ⟨_, rfl⟩, rfl⟩
            · have i3 : ¬ (1000000000 : Int) < (acc : Int) := by omega
              have HOK : Hid (valR 0 (l.drop 0) = valR (10 * acc + (k - 48)) (l.drop (j + 1))) := by show _ = _; rw [HV2.out, if_neg (by omega)]
              have hk48 : 48 ≤ k := by omega
              have hk57 : k ≤ 57 := by omega
              have ha9 : acc ≤ 1000000000 := by omega
              clear h1 h2 h3 HBAD HV2
              go_wp2_with fail
              go_round
              case rel => exact ⟨10 * acc + (k - 48), j + 1, by omega, by omega, by go_num, by go_num, by omega, HOK.out⟩
              case measure => simp [intOf]; omega
      · obtain rfl : n = j := by omega
        have HU : Hid (valR 0 (bodyR l) = some acc) := by show _ = _; rw [HBR.out, HV.out, List.drop_of_length_le (by rw [← HN.out]; exact Nat.le_refl _)]; rfl
        have HX : Hid (R = if Lib.itoa ((acc : Int)) = l then some ((acc : Int)) else none) := by
          show _ = _
          rw [HR.out]
          unfold numR
          rw [HU.out]
          simp only
          rw [show signR l acc = (acc : Int) from HSG.out acc]
          by_cases he : Lib.itoa ((acc : Int)) = l
          · rw [if_pos ⟨HNE.out, he⟩, if_pos he]
          · rw [if_neg (fun h => he h.2), if_neg he]
        have HD := Lib.hid (digits_any ((acc : Int)) (by omega) (by omega) w)
        have hpos : (0 : Int) < (n : Int) := by omega
        obtain ⟨D, hD⟩ : ∃ D, D = ByteArray.mk (Lib.itoa ((acc : Int))).toArray := ⟨_, rfl⟩
        have HDD := Lib.hid hD
        rw [← hD] at HD
        have hbe : (D.toList == S.toList) = decide (Lib.itoa ((acc : Int)) = l) := by rw [hD, HS.out]; exact beq_strs _ _
        clear hD HV HU
        by_cases he : Lib.itoa ((acc : Int)) = l
        · have HX2 : Hid (R = some ((acc : Int))) := by show _ = _; rw [HX.out, if_pos he]
          rw [decide_eq_true he] at hbe
          clear he HX
          go_wp2_with fail
          refine HD.out.mono ?_
          rintro e w1 ⟨rfl, rfl⟩
          go_wp2_with fail
          go_ret2
          exact ⟨by rw [HX2.out]; rfl, rfl⟩
        · have HX2 : Hid (R = none) := by show _ = _; rw [HX.out, if_neg he]
          rw [decide_eq_false he] at hbe
          clear he HX
          go_wp2_with fail
          refine HD.out.mono ?_
          rintro e w1 ⟨rfl, rfl⟩
          go_wp2_with fail
          go_ret2
          exact ⟨by rw [HX2.out]; exact ⟨_, rfl⟩, rfl⟩

end Go.Proofs.YtjcffbhgjmaicaaDoor
