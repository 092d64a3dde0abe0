/-
  Layer 7 (box): heads.
-/
import Derived.Test.YtjnfnocmjpboiaaBoxRight
import Derived.Deep.RegionHeld3
import Derived.Deep.AppendLies
namespace Go.Proofs.Ytjnfnocmjpboiaa
open Go.RowKit
open CrcMath BoxMath

/-- The slice of chunks that begins at 'a' reads as cs. -/
def Chunks (w : World) (a : Option Addr) (cs : List (Nat × List Nat)) : Prop :=
  ∀ (i k : Nat) (l : List Nat), cs[i]? = some (k, l) → k < 256 ∧ ∃ b off A c, a = some ⟨b, off, none⟩ ∧ w.cell? ⟨b, off + i * 2, none⟩ = some (.int .u8 (k : Int)) ∧
    w.cell? ⟨b, off + i * 2 + 1, none⟩ = some (.slice A l.length c) ∧ l.length ≤ c ∧ c ≤ maxLen ∧ Txt w A l

theorem Chunks.below {w w' : World} {a : Option Addr} {cs : List (Nat × List Nat)} (h : Chunks w a cs) (hb : Below w.heap.size w w') : Chunks w' a cs := by
  intro i k l hi
  obtain ⟨hk, b, off, A, c, rfl, h1, h2, h3, h4, ht⟩ := h i k l hi
  exact ⟨hk, b, off, A, c, rfl, (hb.cell (p := ⟨b, off + i * 2, none⟩) (lt_of_cell h1)).trans h1, (hb.cell (p := ⟨b, off + i * 2 + 1, none⟩) (lt_of_cell h2)).trans h2, h3, h4, ht.below hb⟩

theorem rows_succ {cs : List (Nat × List Nat)} {k : Nat} {c : Nat × List Nat} (h : cs[k]? = some c) : rowsOf (cs.take (k + 1)) = rowsOf (cs.take k) ++ rowOf c := by
  rw [take_snoc h, rowsOf, List.flatMap_append]; simp [rowsOf]

theorem txt_letters (w : World) : Txt (w.alloc (.cells #[.int .u8 71, .int .u8 89, .int .u8 80, .int .u8 83] 5 (4, 5))) (some ⟨w.heap.size, 0, none⟩) letters := by
  refine Txt.of_at (by decide) fun _ => ⟨_, _, rfl, fun j u hj => ?_⟩
  rw [World.cell?_alloc_mark]
  match j, hj with
  | 0, hj | 1, hj | 2, hj | 3, hj => simp [letters] at hj; subst hj; rfl
  | n + 4, hj => simp [letters] at hj

theorem ownsRow_base {w : World} {base base' : Nat} {e : TypeId} {size n : Nat} {v : Value} {xs : List Value} (h : w.ownsRow base e size v n xs) (hb : base' ≤ base) : w.ownsRow base' e size v n xs := by
  refine ⟨h.1, ?_⟩
  rcases h.2 with hn | ⟨g, cap, cur, rfl, hbg, rest⟩
  · exact .inl hn
  · exact .inr ⟨g, cap, cur, rfl, Nat.le_trans hb hbg, rest⟩

theorem Txt.drew {w : World} {a : Option Addr} {l : List Nat} (h : Txt w a l) : Txt w.drew a l := h

theorem lies_ne {w : World} {v v' : Value} {g : Nat} (h : Lies w v v') (hv : v.ownBlock ≠ some g) (hg : g < w.heap.size) : some g ≠ v'.ownBlock := fun e => by
  rcases h g e.symm with e' | e'
  · exact hv e'
  · omega

set_option maxHeartbeats 4000000 in
theorem heads_any (a : Option Addr) (n c : Nat) (cs : List (Nat × List Nat)) (w : World) (hn : cs.length = n) (hn2 : n ≤ 1024) (hl : ∀ x ∈ cs, x.2.length ≤ 4194304) (h : Chunks w a cs) :
    Calls Try.prog 18 #[.slice a n c] w fun e w' => ∃ vf vt, e = .returned (.tuple #[vf, vt]) ∧ OwnB w' w.heap.size vf (fixedOf n) ∧ OwnB w' w.heap.size vt (tableOf cs) ∧ Below w.heap.size w w' := by
  have kc := fun (w : World) (C : Array Value) (n c : Nat) => Lib.run_convert_bytes_const (P := Try.prog) w 25 5 C n c Try.underlying25 Try.underlying5
  have HX := Lib.hid h
  have HN := Lib.hid hn
  have HL := Lib.hid hl
  clear h hn hl
  go_enter Try.func18, Try.ntmps18
  go_wp2_with fail
  refine (number_any (.slice (some ⟨w.heap.size, 0, none⟩) 4 4) w.heap.size letters n 2 _ (by simp [letters]) (by omega) (by omega) (by omega) (.inr ⟨_, rfl, txt_letters w, by simp [letters]⟩) (by simp)).mono ?_
  rintro e w1 ⟨v1, rfl, ho1, hg1, hat1⟩
  have hb1 : Below w.heap.size w w1 := ((Below.refl w.heap.size w).alloc (Nat.le_refl _) _).grown hg1 (by simp) (fun k hk => by simp [Value.ownBlock] at hk; omega)
  clear kc
  go_wp2_with fail
  refine (summed_any v1 w.heap.size (letters ++ be 2 n) w1 (by rw [List.length_append, be_len]; simp [letters]) (.inl ho1) hb1.size).mono ?_
  rintro e w2 ⟨v2, rfl, ho2, hg2, hat2⟩
  have hb2 : Below w.heap.size w w2 := hb1.grown hg2 hb1.size fun k hk => (ho1.lt k hk).1
  have HO2 : Hid (OwnB w2 w.heap.size v2 (fixedOf n)) := ho2
  have HB2 := Lib.hid hb2
  obtain ⟨R, hR⟩ : ∃ R : Nat → List Nat, R = fun k => rowsOf (cs.take k) := ⟨_, rfl⟩
  have HR := Lib.hid hR
  have hR0 : R 0 = [] := by rw [hR]; rfl
  have HR0 := Lib.hid hR0
  have HRL : Hid (∀ k, (R k).length ≤ 9 * n) := fun k => by rw [hR]; show (rowsOf (cs.take k)).length ≤ _; rw [rowsOf_len, List.length_take]; have := HN.out; omega
  clear hR hR0 ho1 hg1 hat1 ho2 hg2 hat2
  have hsz2 := hb2.size
  go_wp2_with fail
  go_loopw [3, 5, 6, 15] (fun x _ _ i wr => ∃ k : Nat, k ≤ n ∧ i = .int .i64 k ∧ OwnB wr w2.heap.size x (R k) ∧ Below w2.heap.size w2 wr) (fun _ _ _ i _ => n - (intOf i).toNat)
  case atStart => exact ⟨0, by omega, rfl, by rw [HR0.out]; exact OwnB.none_, Below.refl _ _⟩
  case round =>
    obtain ⟨k, hk, rfl, ho, hb⟩ := hrel
    by_cases hkn : k < n
    · obtain ⟨⟨kd, l⟩, hck⟩ : ∃ x, cs[k]? = some x := ⟨cs[k]'(by rw [HN.out]; exact hkn), List.getElem?_eq_getElem _⟩
      have hl4 := HL.out _ (List.mem_of_getElem? hck)
      obtain ⟨hkd, b, off, A, c', rfl, hc1, hc2, hlc, hcc, tx0⟩ := HX.out k kd l hck
      have hbw : Below w.heap.size w wr := HB2.out.trans (hb.mono HB2.out.size)
      have hc1' := (hbw.cell (p := ⟨b, off + k * 2, none⟩) (lt_of_cell hc1)).trans hc1
      have hc2' := (hbw.cell (p := ⟨b, off + k * 2 + 1, none⟩) (lt_of_cell hc2)).trans hc2
      have tx := tx0.below hbw
      have HS : Hid (R (k + 1) = R k ++ rowOf (kd, l)) := by show _ = _; rw [HR.out]; exact rows_succ hck
      have hrl := HRL.out (k + 1)
      clear hck hc1 hc2
      have hl4' : l.length ≤ 4194304 := hl4
      go_wp2_with fail
      have hbA := (Below.refl wr.heap.size wr).alloc (Nat.le_refl _) (.cells #[.int .u8 (kd : Int), .slice A l.length c'] 36)
      have hoW := ho.later hbA
      have hbW := hb.alloc hb.size (.cells #[.int .u8 (kd : Int), .slice A l.length c'] 36)
      have k0 : (wr.alloc (.cells #[.int .u8 (kd : Int), .slice A l.length c'] 36)).cell? ⟨wr.heap.size, 0, none⟩ = some (.int .u8 (kd : Int)) := by rw [World.cell?_alloc_new]; rfl
      have k1 : (wr.alloc (.cells #[.int .u8 (kd : Int), .slice A l.length c'] 36)).cell? ⟨wr.heap.size, 1, none⟩ = some (.slice A l.length c') := by rw [World.cell?_alloc_new]; rfl
      have hgs : wr.heap.size < (wr.alloc (.cells #[.int .u8 (kd : Int), .slice A l.length c'] 36)).heap.size := by simp
      have hug : u3.ownBlock ≠ some wr.heap.size := fun e => by have := (ho.lt _ e).2; omega
      have hgb := hb.size
      have TX0 := Lib.hid tx0
      clear hbA tx tx0 hc1' hc2' hbw ho hb
      generalize wr.alloc (.cells #[.int .u8 (kd : Int), .slice A l.length c'] 36) = W at *
      generalize wr.heap.size = g at *
      have hbsz := hbW.size
      obtain ⟨u, hu⟩ : ∃ u, u = R k := ⟨_, rfl⟩
      have hul : u.length ≤ 9 * n := by rw [hu]; exact HRL.out k
      rw [← hu] at hoW HS
      clear hu
      go_region_held3 (fun V => V.cell? ⟨g, 0, none⟩ = some (.int .u8 (kd : Int)) ∧ V.cell? ⟨g, 1, none⟩ = some (.slice A l.length c'))
        (first
          | go_keep
          | (go_split_ands
             refine ⟨?_, ?_⟩
             · (rw [hgrow.cell_far _ (by simp; omega) (Ne.symm hug)]; assumption)
             · (rw [hgrow.cell_far _ (by simp; omega) (Ne.symm hug)]; assumption))
          | (go_split_ands
             refine ⟨?_, ?_⟩
             · (rw [hg4.cell_far _ (Nat.lt_of_lt_of_le (by simp; omega) hgrow.size) (lies_ne hl3 hug (by simp; omega))]; assumption)
             · (rw [hg4.cell_far _ (Nat.lt_of_lt_of_le (by simp; omega) hgrow.size) (lies_ne hl3 hug (by simp; omega))]; assumption)))
        (first
          | (go_at_call 27; refine (number_any v3 w2.heap.size (u ++ [kd]) l.length 4 _ (by simp; omega) (by omega) (by omega) (by omega) (.inl h3) (Nat.le_trans (by simp; omega) hgrow.size)).mono ?_; rintro e w4 ⟨v4, rfl, h4, hg4, hl4a⟩)
          | (refine step_appendA (by rfl) _ _ (by rfl) (by rfl) (.inl (OwnB.drew (hoW.later ((Below.refl _ W).alloc (Nat.le_refl _) _)))) (by rfl) (by rfl) (Txt.drew (txt_one W _ kd rfl hkd)) (by simp) (by simp; omega) (by simp; omega) ?_; intro v3 w3 h3 hgrow hl3))
      have hb3 : Below w2.heap.size w2 w3 := ((hbW.alloc hbW.size (.cells #[.int .u8 (kd : Int)] 5)).drew).grown hgrow (by simp; omega) (fun b hb => (hoW.lt b hb).1)
      have hb4 : Below w2.heap.size w2 w4 := hb3.grown hg4 hb3.size (fun b hb => (h3.lt b hb).1)
      have hv3 : v3.ownBlock ≠ some g := fun e => by
        rcases hl3 g e with e' | e'
        · exact hug e'
        · simp at e'; omega
      have k1c : w3.cell? ⟨g, 1, none⟩ = some (.slice A l.length c') := by
        rw [hgrow.cell_far _ (by simp; omega) (Ne.symm hug)]
        exact (World.cell?_alloc_lt W _ ⟨g, 1, none⟩ hgs).trans k1
      have k1d : w4.cell? ⟨g, 1, none⟩ = some (.slice A l.length c') := by
        rw [hg4.cell_far _ (lt_of_cell k1c) (Ne.symm hv3)]; exact k1c
      have tx4 := TX0.out.below (HB2.out.trans (hb4.mono HB2.out.size))
      have hs := sum_lt l
      have HSUM := Lib.hid (sum_any A c' l w4 (by simp only [maxLen]; omega) tx4)
      have hrow : u ++ rowOf (kd, l) = u ++ [kd] ++ be 4 l.length ++ [sum l % 256, sum l / 256 % 256, sum l / 65536 % 256, sum l / 16777216] := by
        simp [rowOf, le]
      rw [hrow] at HS
      have hl4len : (u ++ [kd] ++ be 4 l.length).length ≤ 20000 := by simp only [List.length_append, be_len, List.length_cons, List.length_nil]; omega
      have HB4 := Lib.hid hb4
      have H4 := Lib.hid (fun o => h4.later ((Below.refl _ w4).alloc (Nat.le_refl _) o))
      obtain ⟨a4, c4, rfl, _, _, _⟩ := h4.txt
      have hb4s := hb4.size
      clear hrow hgrow hg4 hl4a hl3 h3 h4 hb3 hb4 k1c k0 k1 hoW hbW hgs tx4 hv3 hug
      generalize u ++ [kd] ++ be 4 l.length = u4 at *
      generalize sum l = s at *
      go_wp2_with fail
      refine HSUM.out.mono ?_
      rintro e w' ⟨rfl, rfl⟩
      go_wp2_with (at_builtin; refine stop ?_)
      refine unstop (wpList_appendA rfl (.tmp 31) (.tmp 43) rfl rfl (.inl (H4.out _)) rfl rfl (txt_lit4 w4 _ _ _ _ (s % 256) (s / 256 % 256) (s / 65536 % 256) (s / 16777216) (by omega) (by omega) (by omega) (by omega) (by omega) (by omega) (by omega) (by omega)) (by simp) (by simp; omega) (by simp; omega) ?_)
      intro v5 w5 h5 hg5 _
      have hb5 : Below w2.heap.size w2 w5 := (HB4.out.alloc HB4.out.size _).grown hg5 (by simp; omega) (fun b hb => ((H4.out (.cells #[] 0)).lt b hb).1)
      rw [← HS.out] at h5
      clear hg5 H4
      go_wp2_with fail
      go_roundw
      case rel => exact ⟨k + 1, by omega, by go_num, h5, hb5⟩
      case measure => simp [intOf]; omega
    · obtain rfl : k = n := by omega
      have e : R k = rowsOf cs := by rw [HR.out]; show rowsOf (cs.take k) = _; rw [List.take_of_length_le (by rw [HN.out]; exact Nat.le_refl _)]
      rw [e] at ho
      have hrl : (rowsOf cs).length ≤ 20000 := by rw [rowsOf_len]; have := HN.out; omega
      clear e
      go_wp2_with fail
      refine (summed_any u3 w2.heap.size (rowsOf cs) wr (by omega) (.inl ho) hb.size).mono ?_
      rintro e w3 ⟨v3, rfl, ho3, hg3, _⟩
      have hb3 : Below w2.heap.size w2 w3 := hb.grown hg3 hb.size fun b hb => (ho.lt b hb).1
      have HO3 : Hid (OwnB w3 w2.heap.size v3 (tableOf cs)) := ho3
      clear ho3 hg3 ho
      go_wp2_with fail
      go_ret2
      refine ⟨v2, v3, rfl, HO2.out.later hb3, ⟨HO3.out.1, ?_⟩, HB2.out.trans (hb3.mono HB2.out.size)⟩
      have h := HO3.out.2
      exact ownsRow_base h HB2.out.size

end Go.Proofs.Ytjnfnocmjpboiaa
