/-
  Layer 7 (box): Right.
-/
import Derived.Test.YtjnfnocmjpboiaaBoxRightA
namespace Go.Proofs.Ytjnfnocmjpboiaa
open Go.RowKit
open CrcMath BoxMath

def chunkOf (p : Part) : Nat × List Nat := (p.kind, p.data)

/-- Is it a box? -/
def rightBox (l : List Nat) : Bool :=
  match opened l with
  | some ps => ps.all (·.whole) && decide (boxOf (ps.map chunkOf) = l)
  | none => false

theorem parts_data {b t : List Nat} {at0 : Int} {n : Nat} (p : Part) (h : p ∈ partsOf b t at0 n) : p.data.length ≤ b.length := by
  unfold partsOf at h
  obtain ⟨i, _, rfl⟩ := List.mem_map.1 h
  unfold partOf
  dsimp only
  split
  · rw [List.length_take, List.length_drop]; omega
  · simp
theorem opened_data {l : List Nat} {ps : List Part} (h : opened l = some ps) (p : Part) (hp : p ∈ ps) : p.data.length ≤ l.length := by
  unfold opened at h
  split at h
  · injection h with h; subst h; exact parts_data p hp
  · split at h
    · injection h with h; subst h; exact parts_data p hp
    · cases h
theorem data_bound : ∀ (ps : List Part) (m : Nat), (∀ p ∈ ps, p.data.length ≤ m) → (dataOf (ps.map chunkOf)).length ≤ ps.length * m
  | [], m, _ => by simp [dataOf]
  | p :: ps, m, h => by
    have h1 := data_bound ps m fun q hq => h q (List.mem_cons_of_mem _ hq)
    have h2 := h p List.mem_cons_self
    rw [List.map_cons, dataOf, List.flatMap_cons, List.length_append, List.length_cons, Nat.add_mul]
    unfold dataOf at h1
    show p.data.length + _ ≤ _
    omega

theorem opened_len {l : List Nat} {ps : List Part} (h : opened l = some ps) : 14 + 9 * ps.length ≤ l.length := by
  unfold opened at h
  split at h
  · rename_i h1
    unfold first1 at h1
    simp only [Bool.and_eq_true, decide_eq_true_iff] at h1
    injection h with h
    subst h
    rw [partsOf_len]; omega
  · split at h
    · rename_i h1
      unfold second2 at h1
      simp only [Bool.and_eq_true, decide_eq_true_iff] at h1
      injection h with h
      subst h
      rw [partsOf_len]; omega
    · cases h

set_option maxHeartbeats 4000000 in
theorem rightBox_any (a : Option Addr) (c : Nat) (l : List Nat) (w : World) (hc : l.length ≤ c) (hc2 : c ≤ maxLen) (hl : l.length ≤ 4000) (h : Txt w a l) :
    Calls Try.prog 14 #[.slice a l.length c] w fun e w' => e = .returned (.bool (rightBox l)) ∧ Below w.heap.size w w' := by
  have HO := Lib.hid (open_any a c l w hc hc2 (by omega) h)
  have HH := Lib.hid h
  clear h
  go_enter Try.func14, Try.ntmps14
  go_wp2_with fail
  refine HO.out.mono ?_
  rintro e w1 ⟨hb1, hr⟩
  cases ho : opened l with
  | none =>
    rw [ho] at hr
    obtain ⟨k, rfl, hk⟩ := hr
    have hk0 : (k == 0) = false := by simpa using hk
    have hk1 : (k != 0) = true := by simpa using hk
    go_wp2_with fail
    go_ret
    have hf : rightBox l = false := by simp [rightBox, ho]
    exact ⟨by rw [hf]; rfl, hb1⟩
  | some ps =>
    rw [ho] at hr
    obtain ⟨v, rfl, hp⟩ := hr
    obtain ⟨av, cv, rfl, hv1, hv2, hat⟩ := hp.form
    have HAT := Lib.hid hat
    have HO2 := Lib.hid ho
    clear hp hat
    have hol := opened_len ho
    obtain ⟨n, hn⟩ : ∃ n, n = ps.length := ⟨_, rfl⟩
    rw [← hn] at hv1 ⊢
    have HN := Lib.hid hn
    clear hn
    unfold maxLen at hv2
    obtain ⟨D, hD⟩ : ∃ D : Nat → List (Nat × List Nat), D = fun k => (ps.take k).map chunkOf := ⟨_, rfl⟩
    have HD := Lib.hid hD
    have hD0 : D 0 = [] := by rw [hD]; rfl
    have HD0 := Lib.hid hD0
    have hn2 : n ≤ 65536 := by rw [HN.out]; omega
    have HDL : Hid (∀ k, (D k).length ≤ n) := fun k => by rw [hD, HN.out]; simp; omega
    clear hD hD0
    go_wp2_with fail
    go_loopw [5, 7, 18] (fun x _ i wr => ∃ k : Nat, k ≤ n ∧ i = .int .i64 k ∧ ChunksOwn wr w1.heap.size x (D k) ∧ (∀ j p, j < k → ps[j]? = some p → p.whole = true) ∧ Below w1.heap.size w1 wr) (fun _ _ i _ => n - (intOf i).toNat)
    case atStart => exact ⟨0, by omega, rfl, by rw [HD0.out]; exact ChunksOwn.nil _ _, by omega, Below.refl _ _⟩
    case round =>
      obtain ⟨k, hk, rfl, hx, hw, hb⟩ := hrel
      by_cases hkn : k < n
      · obtain ⟨p, hp⟩ : ∃ p, ps[k]? = some p := ⟨ps[k]'(by rw [← HN.out]; exact hkn), List.getElem?_eq_getElem _⟩
        obtain ⟨hkd, b, off, dv, rfl, hc0, hc1, hc2', hc3, hod⟩ := HAT.out k p hp
        obtain ⟨A, c', rfl, hlc, hcc, _⟩ := hod.txt
        have g0 := (hb.cell (p := ⟨b, off + k * 4, none⟩) (lt_of_cell hc0)).trans hc0
        have g1 := (hb.cell (p := ⟨b, off + k * 4 + 1, none⟩) (lt_of_cell hc1)).trans hc1
        have g2 := (hb.cell (p := ⟨b, off + k * 4 + 2, none⟩) (lt_of_cell hc2')).trans hc2'
        have g3 := (hb.cell (p := ⟨b, off + k * 4 + 3, none⟩) (lt_of_cell hc3)).trans hc3
        have hod0 : OwnB w1 0 (.slice A p.data.length c') p.data := ⟨hod.1, ownsRow_base hod.2 (Nat.zero_le _)⟩
        have HP := Lib.hid hp
        clear hc0 hc1 hc2' hc3 hod hp
        cases hwh : p.whole with
        | false =>
          rw [hwh] at g3
          go_wp2_with fail
          go_ret
          have hf : rightBox l = false := by
            simp only [rightBox, HO2.out]
            have : ps.all (·.whole) = false := by
              rw [List.all_eq_false]
              exact ⟨p, List.mem_of_getElem? HP.out, by rw [hwh]; decide⟩
            rw [this]; rfl
          exact ⟨by rw [hf]; rfl, hb1.trans ((hb.alloc hb.size _).mono hb1.size)⟩
        | true =>
          rw [hwh] at g3
          have hbA := (Below.refl wr.heap.size wr).alloc (Nat.le_refl _) (.cells #[.int .u8 (p.kind : Int), .slice A p.data.length c', .int .i64 p.at_, .bool true] 38)
          go_wp2_with (at_builtin; refine stop ?_)
          have ho' := hx.later hbA
          have hbV := hb.trans (hbA.mono hb.size)
          have hbN := (Below.refl (wr.alloc (.cells #[.int .u8 (p.kind : Int), .slice A p.data.length c', .int .i64 p.at_, .bool true] 38)).heap.size (wr.alloc (.cells #[.int .u8 (p.kind : Int), .slice A p.data.length c', .int .i64 p.at_, .bool true] 38))).alloc (Nat.le_refl _) (.cells #[.int .u8 (p.kind : Int), .slice A p.data.length c'] 36)
          have hoA := ho'.later hbN
          have hdA := ((hod0.later hb).later hbA).later hbN
          have hbB := hbV.alloc hbV.size (.cells #[.int .u8 (p.kind : Int), .slice A p.data.length c'] 36)
          have hrow := row_newC (wr.alloc (.cells #[.int .u8 (p.kind : Int), .slice A p.data.length c', .int .i64 p.at_, .bool true] 38)) p.kind (chunkOf p) (.slice A p.data.length c') rfl rfl
          have hdk := HDL.out k
          have hbs := hbB.size
          have HDS : Hid (D (k + 1) = D k ++ [chunkOf p]) := by
            show _ = _
            rw [HD.out]
            show (ps.take (k + 1)).map chunkOf = _
            rw [take_snoc HP.out, List.map_append]; rfl
          rw [show (wr.alloc (.cells #[.int .u8 (p.kind : Int), .slice A p.data.length c', .int .i64 p.at_, .bool true] 38)).heap.size = wr.heap.size + 1 from by simp] at hrow
          refine unstop (wpList_appendC rfl (.tmp 25) (.tmp 28) rfl rfl hoA (chunkOf p) (.slice A p.data.length c') hdA hkd rfl hrow.1 hrow.2 (by omega) (Nat.le_trans (Nat.le_refl _) hbs) ?_)
          intro v9 w9 h9 hg9 hbase9
          rw [← HDS.out] at h9
          have hb9 : Below w1.heap.size w1 w9 := hbB.grown hg9 hbB.size hbase9
          clear ho' hoA hdA hbB hrow hg9 hbase9 hbN hbV hbA
          go_wp2_with fail
          go_roundw
          case rel =>
            refine ⟨k + 1, by omega, by go_num, h9, fun j p' hj hp' => ?_, hb9⟩
            rcases Nat.lt_or_ge j k with h | h
            · exact hw j p' h hp'
            · obtain rfl : j = k := by omega
              have := HP.out
              rw [hp'] at this
              injection this with this
              rw [this]; exact hwh
          case measure => simp [intOf]; omega
      · obtain rfl : k = n := by omega
        have hDn : D k = ps.map chunkOf := by
          rw [HD.out]
          show (ps.take k).map chunkOf = _
          rw [HN.out, List.take_length]
        rw [hDn] at hx
        obtain ⟨ac, cc, rfl, hcc1, hcc2, hch⟩ := hx.form
        have hml : (ps.map chunkOf).length = k := by rw [List.length_map]; exact HN.out.symm
        have hdl : (dataOf (ps.map chunkOf)).length ≤ 1768000 := by
          have h1 := data_bound ps l.length fun p hp => opened_data HO2.out p hp
          have h2 : ps.length * l.length ≤ 442 * 4000 := Nat.mul_le_mul (by omega) hl
          omega
        have hbx : (boxOf (ps.map chunkOf)).length ≤ 1000000000 := by
          simp only [boxOf, List.length_append, fixedOf_len, tableOf_len, List.length_cons, List.length_nil, hml]
          omega
        have HBX := Lib.hid hbx
        have hk4 : k ≤ 442 := by rw [HN.out]; omega
        have HPk := Lib.hid (pack_any ac k cc (ps.map chunkOf) wr hml (by omega) (by omega) hch)
        rw [hml]
        rw [hml] at hcc1
        clear hbx hdl hch hx hDn
        go_wp2_with fail
        refine HPk.out.mono ?_
        rintro e w3 ⟨v3, rfl, hov, hb3⟩
        obtain ⟨A3, c3, rfl, h31, h32, t3⟩ := hov.txt
        have hB3 := (hb1.trans (hb.mono hb1.size)).trans (hb3.mono (Nat.le_trans hb1.size hb.size))
        have HE := Lib.hid (equal_any A3 a c3 c (boxOf (ps.map chunkOf)) l w3 HBX.out t3 (HH.out.below hB3))
        have hf : rightBox l = decide (boxOf (ps.map chunkOf) = l) := by
          simp only [rightBox, HO2.out]
          have : ps.all (·.whole) = true := by
            rw [List.all_eq_true]
            intro p hp
            obtain ⟨j, hj⟩ := List.getElem?_of_mem hp
            have hjl := (List.getElem?_eq_some_iff.1 hj).1
            rw [← HN.out] at hjl
            exact hw j p hjl hj
          rw [this, Bool.true_and]
        have HFF := Lib.hid hf
        clear hf hov t3 h31 h32
        go_wp2_with fail
        refine HE.out.mono ?_
        rintro e w4 ⟨rfl, m, rfl⟩
        go_wp2_with fail
        go_ret
        exact ⟨by rw [HFF.out]; rfl, below_drewN hB3 _⟩

end Go.Proofs.Ytjnfnocmjpboiaa
