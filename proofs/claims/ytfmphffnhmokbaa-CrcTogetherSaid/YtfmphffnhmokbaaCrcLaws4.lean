/-
  The walks of the laws of layer 6, fourth part.
-/
import Derived.Test.YtfmphffnhmokbaaCrcHelp
namespace Go.Proofs.Ytfmphffnhmokbaa
open Go.RowKit
open CrcMath

/-- What the first k rounds have put together. -/
def mixed (l m : List Nat) (n k : Nat) : List Nat := (List.zipWith (· ^^^ ·) l m).take k ++ List.replicate (n - k) 0

theorem mixed_zero (l m : List Nat) (n : Nat) : mixed l m n 0 = List.replicate n 0 := by simp [mixed]
theorem mixed_all (l m : List Nat) (n : Nat) (h : (List.zipWith (· ^^^ ·) l m).length = n) : mixed l m n n = List.zipWith (· ^^^ ·) l m := by
  simp [mixed, ← h, List.take_of_length_le]
theorem mixed_len (l m : List Nat) (n k : Nat) (h : (List.zipWith (· ^^^ ·) l m).length = n) (hk : k ≤ n) : (mixed l m n k).length = n := by
  simp only [mixed, List.length_append, List.length_take, List.length_replicate, h]; omega
theorem mixed_at (l m : List Nat) (n k : Nat) (h : (List.zipWith (· ^^^ ·) l m).length = n) (hk : k < n) : (mixed l m n k)[k]? = some 0 := by
  unfold mixed
  rw [List.getElem?_append_right (by simp [h]; omega), List.length_take, h]
  rw [List.getElem?_replicate]
  have : k - min k n = 0 := by omega
  rw [if_pos (by omega)]
theorem mixed_set {l m : List Nat} {n k u v : Nat} (h : (List.zipWith (· ^^^ ·) l m).length = n) (hk : k < n) (hu : l[k]? = some u) (hv : m[k]? = some v) : (mixed l m n k).set k (u ^^^ v) = mixed l m n (k + 1) := by
  have hz : (List.zipWith (· ^^^ ·) l m)[k]? = some (u ^^^ v) := by rw [List.getElem?_zipWith, hu, hv]
  unfold mixed
  have hl : ((List.zipWith (· ^^^ ·) l m).take k).length = k := by rw [List.length_take, h]; omega
  rw [List.set_append_right _ _ (by omega), hl, Nat.sub_self, take_snoc hz]
  have : n - k = (n - (k + 1)) + 1 := by omega
  rw [this, List.replicate_succ, List.set_cons_zero]
  simp

theorem zip_noughts (l : List Nat) : List.zipWith (· ^^^ ·) l (List.replicate l.length 0) = l := by
  induction l with
  | nil => rfl
  | cons c l ih => simp only [List.length_cons, List.replicate_succ, List.zipWith_cons_cons, Nat.xor_zero, ih]

theorem together_eq (l m : List Nat) (n : Nat) (kl : ∀ c ∈ l, c < 256) (km : ∀ c ∈ m, c < 256) (h : (List.zipWith (· ^^^ ·) l m).length = n) :
    sum (l.take n) ^^^ sum (m.take n) ^^^ sum (List.replicate n 0) = sum (List.zipWith (· ^^^ ·) l m) := by
  have e1 : List.zipWith (· ^^^ ·) l m = List.zipWith (· ^^^ ·) (l.take n) (m.take n) := by
    rw [← List.take_zipWith, ← h, List.take_length]
  have hl : (l.take n).length = n := by rw [List.length_zipWith] at h; rw [List.length_take]; omega
  have hm : (m.take n).length = n := by rw [List.length_zipWith] at h; rw [List.length_take]; omega
  have hz : (List.zipWith (· ^^^ ·) (l.take n) (m.take n)).length = n := by rw [List.length_zipWith, hl, hm]; omega
  have e2 := zip_noughts (List.zipWith (· ^^^ ·) (l.take n) (m.take n))
  rw [hz] at e2
  have r1 := reg_xor (l.take n) (m.take n) 4294967295 4294967295 (by omega)
  have r2 := reg_xor (List.zipWith (· ^^^ ·) (l.take n) (m.take n)) (List.replicate n 0) (4294967295 ^^^ 4294967295) 4294967295 (by rw [hz, List.length_replicate])
  rw [e2, r1] at r2
  rw [e1]
  have bx : ∀ c ∈ l.take n, c < 256 := fun c hc => kl c (List.mem_of_mem_take hc)
  have bY : ∀ c ∈ m.take n, c < 256 := fun c hc => km c (List.mem_of_mem_take hc)
  have bz : ∀ c ∈ List.replicate n 0, c < 256 := fun c hc => by have := List.eq_of_mem_replicate hc; omega
  generalize l.take n = x at *
  generalize m.take n = y at *
  have hM : (4294967295 ^^^ 4294967295) ^^^ 4294967295 = 4294967295 := by decide
  rw [hM] at r2
  have ka := reg_lt x (x := 4294967295) (by decide) bx
  have kb := reg_lt y (x := 4294967295) (by decide) bY
  have kc := reg_lt (List.replicate n 0) (x := 4294967295) (by decide) bz
  unfold sum
  rw [r2]
  rw [flip_xor ka, flip_xor kb, flip_xor kc, flip_xor (Nat.xor_lt_two_pow (n := 32) (Nat.xor_lt_two_pow (n := 32) ka kb) kc)]
  generalize reg 4294967295 x = A
  generalize reg 4294967295 y = B
  generalize reg 4294967295 (List.replicate n 0) = D
  have e : (A ^^^ 4294967295) ^^^ (B ^^^ 4294967295) = A ^^^ B := by
    rw [Nat.xor_comm B, ← Nat.xor_assoc, Nat.xor_assoc A, Nat.xor_self, Nat.xor_zero]
  rw [e, ← Nat.xor_assoc]

set_option maxHeartbeats 4000000 in
theorem crcTogether_walkA (a b : Option Addr) (ca cb : Nat) (l m : List Nat) (w : World) (hl : l.length ≤ 300) (hm : m.length ≤ 300) (h1 : Txt w a l) (h2 : Txt w b m) (hca : l.length ≤ ca) (hcb : m.length ≤ cb)
    (n : Nat) (hc : m.length < l.length) (hn : n = m.length) :
    Calls Try.prog 6 #[.slice a l.length ca, .slice b m.length cb] w fun e w' => e = .returned (.bool true) ∧ Below w.heap.size w w' := by
  have hn1 : n ≤ l.length := by omega
  have hn2 : n ≤ m.length := by omega
  have hmk := run_make_row' (P := Try.prog) 22 5 (.int .u8 0) 1 Try.underlying22 infoU8 rfl .i64 .i64 n (by omega) (by omega)
  have hz : (List.zipWith (· ^^^ ·) l m).length = n := by rw [List.length_zipWith]; omega
  have HZ := Lib.hid hz
  have HT : Hid (∀ wr : World, Below w.heap.size w wr → Txt wr a l ∧ Txt wr b m) := fun wr hb => ⟨h1.below hb, h2.below hb⟩
  clear hz
  obtain ⟨C, hC⟩ : ∃ C, C = mixed l m n := ⟨_, rfl⟩
  have HC := Lib.hid hC
  clear hC h1 h2
  · subst hn
    have hw1 : mixed l m m.length 0 = List.replicate m.length 0 := mixed_zero l m m.length
    go_enter Try.func6, Try.ntmps6
    go_wp2_with fail
    refine (awake_any _).mono ?_
    rintro e w1 ⟨rfl, hb1⟩
    have hb1' := hb1.size
    have hown := OwnB.made (w := w1) (base := w.heap.size) hb1.size (n := m.length) (by omega)
    rw [← hw1, ← HC.out] at hown
    have hb2 := hb1.alloc hb1.size (.cells (madeCells #[.int .u8 0] m.length) 5)
    clear hw1
    go_wp2_with fail
    clear hmk
    go_loopw [7, 27] (fun _ i wr => ∃ k : Nat, k ≤ m.length ∧ i = .int .i64 k ∧ OwnB wr w.heap.size (.slice (some ⟨w1.heap.size, 0, none⟩) m.length m.length) (C k) ∧ Below w.heap.size w wr) (fun _ i _ => m.length - (intOf i).toNat)
    case atStart => exact ⟨0, by omega, rfl, hown, hb2⟩
    case round =>
      obtain ⟨k, hk, rfl, hownr, hbr⟩ := hrel
      obtain ⟨t1, t2⟩ := HT.out wr hbr
      by_cases hkn : k < m.length
      · obtain ⟨u, hu⟩ : ∃ u, l[k]? = some u := ⟨l[k], List.getElem?_eq_getElem (by omega)⟩
        obtain ⟨v, hv⟩ : ∃ v, m[k]? = some v := ⟨m[k], List.getElem?_eq_getElem (by omega)⟩
        obtain ⟨ba, oa, rfl, hca1⟩ := t1.at_ (by omega)
        obtain ⟨bb, ob, rfl, hcb1⟩ := t2.at_ (by omega)
        have c1 := hca1 k u hu
        have c2 := hcb1 k v hv
        have c3 := hownr.cell (i := k) (u := 0) (by rw [HC.out]; exact mixed_at l m _ k HZ.out hkn)
        have c4 := hownr.thawed k
        have hu8 : u < 256 := t1.1 u (List.mem_of_getElem? hu)
        have hv8 : v < 256 := t2.1 v (List.mem_of_getElem? hv)
        have hx := u8_xor_nat u v hu8 hv8
        have hown2 := hownr.set k (u ^^^ v) (Nat.xor_lt_two_pow (n := 8) hu8 hv8)
        rw [HC.out, mixed_set HZ.out hkn hu hv, ← HC.out] at hown2
        have hb2 := hbr.setCell (p := ⟨w1.heap.size, k, none⟩) hb1.size (.int .u8 ((u ^^^ v : Nat) : Int))
        clear hca1 hcb1 hu hv t1 t2 hownr
        go_wp2
        go_region
        all_goals
          go_wp2
          go_roundw
          case rel => exact ⟨k + 1, by omega, by go_num, hown2, hb2.drew⟩
          case measure => simp [intOf]; omega
      · obtain rfl : k = m.length := by omega
        rw [HC.out, mixed_all l m _ HZ.out] at hownr
        have hmk := run_make_row' (P := Try.prog) 22 5 (.int .u8 0) 1 Try.underlying22 infoU8 rfl .i64 .i64 m.length (by omega) (by omega)
        obtain ⟨a3, c3, he3, _, _, t3⟩ := hownr.txt
        rw [HZ.out] at he3
        obtain ⟨rfl, rfl⟩ : some ⟨w1.heap.size, 0, none⟩ = a3 ∧ m.length = c3 := by
          injection he3 with e1 e2 e3
          exact ⟨e1, e3⟩
        have t1' : Txt wr a (l.take m.length) := t1.take _
        have t2' : Txt wr b (m.take m.length) := t2.take _
        have HM := Lib.hid (together_eq l m m.length t1.1 t2.1 HZ.out)
        have g1 := sum_lt (l.take m.length)
        have g2 := sum_lt (m.take m.length)
        have g3 := sum_lt (List.replicate m.length 0)
        have q1 := u32_xor_nat _ _ g1 g2
        have q2 := u32_xor_nat _ _ (Nat.xor_lt_two_pow (n := 32) g1 g2) g3
        rw [HM.out] at q2
        have HA1 := Lib.hid (sum_at wr a ca (l.take m.length) m.length t1' (by rw [List.length_take]; omega) (by omega))
        have HA2 := Lib.hid (sum_at wr b cb (m.take m.length) m.length t2' (by rw [List.length_take]; omega) (by omega))
        have HA3 := Lib.hid (sum_at wr (some ⟨w1.heap.size, 0, none⟩) m.length (List.zipWith (· ^^^ ·) l m) m.length t3 HZ.out (by omega))
        have HA4 := Lib.hid (fun W => sum_made W wr.heap.size m.length (by omega))
        clear HT HC HZ HM hownr t1 t2 t1' t2' t3
        generalize sum (l.take m.length) = s1 at *
        generalize sum (m.take m.length) = s2 at *
        generalize sum (List.replicate m.length 0) = s3 at *
        generalize sum (List.zipWith (· ^^^ ·) l m) = s4 at *
        generalize s1 ^^^ s2 = s12 at *
        go_wp2
        go_region_with (first
          | (go_at_call 12; with_reducible refine (HA1.out _ ?_).mono ?_; (first | exact (Below.refl _ _).drew | exact ((Below.refl _ _).alloc (Nat.le_refl _) _).drew); rintro e w' ⟨rfl, rfl⟩)
          | (go_at_call 12; with_reducible refine (HA2.out _ ?_).mono ?_; (first | exact (Below.refl _ _).drew | exact ((Below.refl _ _).alloc (Nat.le_refl _) _).drew); rintro e w' ⟨rfl, rfl⟩)
          | (go_at_call 12; with_reducible refine (HA3.out _ ?_).mono ?_; (first | exact (Below.refl _ _).drew | exact ((Below.refl _ _).alloc (Nat.le_refl _) _).drew); rintro e w' ⟨rfl, rfl⟩)
          | (go_at_call 12; refine (HA4.out _ ?_).mono ?_; exact heap_alloc_new _ _; rintro e w' ⟨rfl, rfl⟩))
        all_goals
          go_wp2_with fail
          go_ret
          exact ⟨rfl, (hbr.alloc hbr.size _).drew⟩

end Go.Proofs.Ytfmphffnhmokbaa
