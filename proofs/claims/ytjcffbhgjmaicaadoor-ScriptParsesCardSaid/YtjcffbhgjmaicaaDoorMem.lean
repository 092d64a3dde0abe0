/-
  Memory words of our own, over any program: a slice that reads as a list of cells or of bytes; append onto a row that the call owns, whatever the source.
-/
import Derived.WalkKit
import Derived.WalkLawsBesides
import Derived.WalkSpells
import Derived.Outline
import Derived.Below
import Derived.Lib.Hide
import Derived.Laws.OwnMore
import Derived.Laws.BytesArg
import Derived.Maps.AppendAt
import Derived.Laws.BitsAllLaws
import Derived.Lib.SlBytesConst
namespace Go.Proofs.YtjcffbhgjmaicaaDoor
open Go.RowKit

/-- A mark at which the walk stands. -/
def Stop (p : Prop) : Prop := p
theorem stop {p : Prop} (h : Stop p) : p := h
theorem unstop {p : Prop} (h : p) : Stop p := h

/-- The slice that begins at 'a' holds the cells xs. -/
def Row (w : World) (a : Option Addr) (xs : List Value) : Prop :=
  0 < xs.length → ∃ b off, a = some ⟨b, off, none⟩ ∧ ∀ (j : Nat) (u : Value), xs[j]? = some u → w.cell? ⟨b, off + j, none⟩ = some u

/-- A byte's cell. -/
def byteCell (u : Nat) : Value := .int .u8 (u : Int)

/-- A slice of bytes that reads as a list of numbers below 256. -/
def Txt (w : World) (a : Option Addr) (l : List Nat) : Prop := (∀ c ∈ l, c < 256) ∧ Row w a (l.map byteCell)

theorem row_nil (w : World) (a : Option Addr) : Row w a [] := by intro h; simp at h
theorem txt_nil (w : World) (a : Option Addr) : Txt w a [] := ⟨by simp, row_nil w a⟩

section
variable {w w' : World} {a : Option Addr} {xs : List Value} {l : List Nat}

theorem lt_of_cell {w : World} {p : Addr} {v : Value} (h : w.cell? p = some v) : p.block < w.heap.size := World.block_lt_of_cell? w p h

theorem Row.below (h : Row w a xs) (hb : Below w.heap.size w w') : Row w' a xs := by
  intro hl
  obtain ⟨b, off, rfl, hc⟩ := h hl
  exact ⟨b, off, rfl, fun j u hj => (hb.cell (p := ⟨b, off + j, none⟩) (lt_of_cell (hc j u hj))).trans (hc j u hj)⟩

theorem Txt.below (h : Txt w a l) (hb : Below w.heap.size w w') : Txt w' a l := ⟨h.1, h.2.below hb⟩

theorem Txt.lt (h : Txt w a l) : ∀ c ∈ l, c < 256 := h.1

theorem Txt.at_ (h : Txt w a l) (hl : 0 < l.length) : ∃ b off, a = some ⟨b, off, none⟩ ∧ ∀ (j u : Nat), l[j]? = some u → w.cell? ⟨b, off + j, none⟩ = some (.int .u8 (u : Int)) := by
  obtain ⟨b, off, rfl, hc⟩ := h.2 (by simpa using hl)
  refine ⟨b, off, rfl, fun j u hj => hc j (byteCell u) ?_⟩
  rw [List.getElem?_map, hj]; rfl

theorem Txt.of_at (hl : ∀ c ∈ l, c < 256) (h : 0 < l.length → ∃ b off, a = some ⟨b, off, none⟩ ∧ ∀ (j u : Nat), l[j]? = some u → w.cell? ⟨b, off + j, none⟩ = some (.int .u8 (u : Int))) : Txt w a l := by
  refine ⟨hl, fun h0 => ?_⟩
  obtain ⟨b, off, rfl, hc⟩ := h (by simpa using h0)
  refine ⟨b, off, rfl, fun j u hj => ?_⟩
  rw [List.getElem?_map] at hj
  obtain ⟨c, hc', rfl⟩ := Option.map_eq_some_iff.1 hj
  exact hc j c hc'

theorem Row.own {base : Nat} {e : TypeId} {size n c : Nat} (h : w.ownsRow base e size (.slice a n c) n xs) : Row w a xs := by
  intro hl
  have hg := h.2
  rcases hg with ⟨hv, hn⟩ | ⟨g, cap, cur, hv, _, _⟩
  · have := h.1; rw [hn] at this; omega
  · injection hv with hv
    subst hv
    refine ⟨g, 0, rfl, fun j u hj => ?_⟩
    have hc := h.cells (g := g) rfl j u hj
    have hadd : (⟨g, 0, none⟩ : Addr).add j = ⟨g, 0 + j, none⟩ := by unfold Addr.add; split <;> simp_all
    rw [hadd] at hc
    exact hc

theorem Txt.own {base : Nat} {e : TypeId} {size n c : Nat} (hl : ∀ c ∈ l, c < 256) (h : w.ownsRow base e size (.slice a n c) n (l.map byteCell)) : Txt w a l := ⟨hl, Row.own h⟩

theorem take_snoc {α : Type} {l : List α} {k : Nat} {u : α} (h : l[k]? = some u) : l.take (k + 1) = l.take k ++ [u] := by
  rw [List.take_add_one, h]; rfl

theorem byte_of_wf {n : Int} (h : (Lit.int .u8 n).wf = true) : 0 ≤ n ∧ n < 256 := by
  simp [Lit.wf, IntKind.min, IntKind.max, IntKind.signed, IntKind.bits] at h; omega
theorem u16_of_wf {n : Int} (h : (Lit.int .u16 n).wf = true) : 0 ≤ n ∧ n < 65536 := by
  simp [Lit.wf, IntKind.min, IntKind.max, IntKind.signed, IntKind.bits] at h; omega
theorem u32_of_wf {n : Int} (h : (Lit.int .u32 n).wf = true) : 0 ≤ n ∧ n < 4294967296 := by
  simp [Lit.wf, IntKind.min, IntKind.max, IntKind.signed, IntKind.bits] at h; omega

/-- What the walk of a law is told of a slice of bytes that came in. -/
theorem txt_of_row {k : IntKind} {len cap : Nat} {zs : List Int} (hk : k = .u8)
    (h : (a = none ∧ len = 0 ∧ cap = 0 ∧ zs = []) ∨
      ∃ x, a = some x ∧ len ≤ cap ∧ cap ≤ maxLen ∧ zs.length = cap ∧ (∀ i, i < zs.length → w.cell? (x.add i) = some (.int k (zs.getD i 0))) ∧ ∀ n ∈ zs, (Lit.int k n).wf = true) :
    ∃ l : List Nat, l.length = len ∧ Txt w a l ∧ len ≤ cap ∧ cap ≤ maxLen := by
  subst hk
  rcases h with ⟨rfl, rfl, rfl, rfl⟩ | ⟨x, rfl, hl, hm, hz, hc, hw⟩
  · exact ⟨[], rfl, txt_nil w none, Nat.le_refl _, by simp [maxLen]⟩
  · have hb : ∀ n ∈ zs, 0 ≤ n ∧ n < 256 := by
      intro n hn
      have := hw n hn
      simp [Lit.wf, IntKind.min, IntKind.max, IntKind.signed, IntKind.bits] at this
      omega
    refine ⟨(zs.take len).map Int.toNat, by simp [hz]; omega, Txt.of_at ?_ ?_, hl, hm⟩
    · intro c hc'
      obtain ⟨n, hn, rfl⟩ := List.mem_map.1 hc'
      have := hb n (List.mem_of_mem_take hn)
      omega
    · intro hpos
      have hlen : 0 < len := by simp at hpos; omega
      have h0 := hc 0 (by omega)
      obtain ⟨b, off, spot⟩ := x
      have hs : spot = none := by
        have := World.cell?_spot h0
        unfold Addr.add at this
        simpa using this
      subst hs
      refine ⟨b, off, rfl, fun j u hj => ?_⟩
      rw [List.getElem?_map] at hj
      obtain ⟨n, hn, rfl⟩ := Option.map_eq_some_iff.1 hj
      have hjl : j < len := by
        have := (List.getElem?_eq_some_iff.1 hn).1
        simp at this; omega
      have hcj := hc j (by omega)
      have hadd : (⟨b, off, none⟩ : Addr).add j = ⟨b, off + j, none⟩ := by unfold Addr.add; split <;> simp_all
      rw [hadd] at hcj
      rw [hcj]
      have hzj : zs[j]? = some n := by rw [List.getElem?_take] at hn; simpa [hjl] using hn
      rw [List.getD_eq_getElem?_getD, hzj]
      have := hb n (List.mem_of_getElem? hzj)
      simp only [Option.getD_some, Option.some.injEq, Value.int.injEq, true_and]
      omega
end

section
variable {P : Program} (w : World)

/-- append onto a row of the call's own, from whatever slice. -/
theorem run_append_row (base : Nat) (t ty e : TypeId) (i : TypeInfo) (z : Value) (size bytes : Nat) (ht : P.underlying t = some (.slice e)) (hi : P.info? e = some i) (hz : i.zero = some z)
    (hsize : i.size = size) (hby : i.bytes = bytes) (hzs : z.cells.size = size) (hsz : 0 < size)
    (v : Value) (n : Nat) (xs : List Value) (hown : w.ownsRow base e size v n xs)
    (A : Option Addr) (m c : Nat) (news : List Value) (hl : news.length = m * size) (hr : Row w A news) (h1 : ∀ u ∈ news, u.oneCell' = true)
    (h63 : n + m ≤ maxLen) (hbytes : (n + m) * bytes ≤ 140737488355328) (hbase : base ≤ w.heap.size) :
    ∃ v' w', (Builtin.append_ #[t, t] ty #[v, .slice A m c]).run P w = .ok v' w' ∧ w'.ownsRow base e size v' (n + m) (xs ++ news) ∧ w.grownBy w' v.ownBlock ∧
      (v'.ownBlock = v.ownBlock ∨ v'.ownBlock = some w.heap.size) := by
  rcases A with _ | ad
  · have hm : m = 0 := by
      rcases Nat.eq_zero_or_pos m with h0 | h0
      · exact h0
      · obtain ⟨b, off, h, _⟩ := hr (by rw [hl]; exact Nat.mul_pos h0 hsz)
        cases h
    subst hm
    have hn : news = [] := List.eq_nil_of_length_eq_zero (by simpa using hl)
    subst hn
    refine ⟨v, w, ?_, by simpa using hown, ⟨rfl, rfl, rfl, Nat.le_refl _, fun _ _ _ => rfl⟩, .inl rfl⟩
    rcases hown.2 with ⟨rfl, rfl⟩ | ⟨g, cap, cur, rfl, _, _, hnc, _⟩
    · simp [Builtin.append_, run_underlying ht, sizeOf, typeInfo, hi, Builtin.lenOf, Builtin.firstCells]
    · simp [Builtin.append_, run_underlying ht, sizeOf, typeInfo, hi, Builtin.lenOf, Builtin.firstCells, hnc, storeCells]
  · have hcells : ∀ j u, news[j]? = some u → w.cell? (ad.add j) = some u := by
      intro j u hu
      have hpos : 0 < news.length := Nat.lt_of_le_of_lt (Nat.zero_le _) (List.getElem?_eq_some_iff.1 hu).1
      obtain ⟨b, off, h, hc⟩ := hr hpos
      injection h with h
      subst h
      have hadd : (⟨b, off, none⟩ : Addr).add j = ⟨b, off + j, none⟩ := by unfold Addr.add; split <;> simp_all
      rw [hadd]
      exact hc j u hu
    obtain ⟨v', w', hrun, h2, h3, _, h5⟩ := run_append_own_at (P := P) w base t ty e i z size bytes ht hi hz hsize hby hzs hsz v n xs hown ad m c news hl hcells h1 h63 hbytes hbase
    exact ⟨v', w', hrun, h2, h3, h5⟩

theorem wp_append_row {o : Oper} {a : Act} {K : Act → World → Prop} {Q : Exit → Act → World → Prop} (s x : Operand) (t : TypeId)
    (ho : o.op = .call { callee := .builtin .append, args := #[s, x], argTypes := #[t, t] })
    (base : Nat) (e : TypeId) (i : TypeInfo) (z : Value) (size bytes : Nat) (ht : P.underlying t = some (.slice e)) (hi : P.info? e = some i) (hz : i.zero = some z)
    (hsize : i.size = size) (hby : i.bytes = bytes) (hzs : z.cells.size = size) (hsz : 0 < size)
    (v : Value) (n : Nat) (xs : List Value) (hs : a.eval s = v) (hown : w.ownsRow base e size v n xs)
    (A : Option Addr) (m c : Nat) (news : List Value) (hx : a.eval x = .slice A m c) (hl : news.length = m * size) (hr : Row w A news) (h1 : ∀ u ∈ news, u.oneCell' = true)
    (h63 : n + m ≤ maxLen) (hbytes : (n + m) * bytes ≤ 140737488355328) (hbase : base ≤ w.heap.size)
    (h : ∀ v' w', w'.ownsRow base e size v' (n + m) (xs ++ news) → w.grownBy w' v.ownBlock → (v'.ownBlock = v.ownBlock ∨ v'.ownBlock = some w.heap.size) → K (a.put o.dst v') w') : o.wp P a w K Q := by
  obtain ⟨v', w', hrun, h2, h3, h4⟩ := run_append_row (P := P) w base t o.type e i z size bytes ht hi hz hsize hby hzs hsz v n xs hown A m c news hl hr h1 h63 hbytes hbase
  unfold Oper.wp execOp
  simp only [ho, resolve, invoke, builtin, Sem.run_bind, Sem.run_pure, Result.andThen_ok, List.map_toArray, List.map_cons, List.map_nil, hs, hx, hrun]
  exact h v' w' h2 h3 h4

theorem wpList_append_row {ops : Array Oper} {rest : List Oper} {o : Oper} {a : Act} {Q : Exit → Act → World → Prop} (hgd : o.guard = none) (s x : Operand) (t : TypeId)
    (ho : o.op = .call { callee := .builtin .append, args := #[s, x], argTypes := #[t, t] })
    (base : Nat) (e : TypeId) (i : TypeInfo) (z : Value) (size bytes : Nat) (ht : P.underlying t = some (.slice e)) (hi : P.info? e = some i) (hz : i.zero = some z)
    (hsize : i.size = size) (hby : i.bytes = bytes) (hzs : z.cells.size = size) (hsz : 0 < size)
    (v : Value) (n : Nat) (xs : List Value) (hs : a.eval s = v) (hown : w.ownsRow base e size v n xs)
    (A : Option Addr) (m c : Nat) (news : List Value) (hx : a.eval x = .slice A m c) (hl : news.length = m * size) (hr : Row w A news) (h1 : ∀ u ∈ news, u.oneCell' = true)
    (h63 : n + m ≤ maxLen) (hbytes : (n + m) * bytes ≤ 140737488355328) (hbase : base ≤ w.heap.size)
    (h : ∀ v' w', w'.ownsRow base e size v' (n + m) (xs ++ news) → w.grownBy w' v.ownBlock → (v'.ownBlock = v.ownBlock ∨ v'.ownBlock = some w.heap.size) → wpList P ops Q rest (a.put o.dst v') w') : wpList P ops Q (o :: rest) a w :=
  wpList_plain hgd fun _ hK => wp_append_row w s x t ho base e i z size bytes ht hi hz hsize hby hzs hsz v n xs hs hown A m c news hx hl hr h1 h63 hbytes hbase fun v' w' h2 h3 h4 => hK _ _ (h v' w' h2 h3 h4)

end

theorem ownsRow_form {w : World} {base : Nat} {e : TypeId} {size n : Nat} {v : Value} {xs : List Value} (h : w.ownsRow base e size v n xs) :
    ∃ a c, v = .slice a n c ∧ n ≤ c ∧ c ≤ maxLen := by
  rcases h.2 with ⟨rfl, rfl⟩ | ⟨g, cap, cur, rfl, _, _, h1, h2, _⟩
  · exact ⟨none, 0, rfl, Nat.le_refl _, by simp [maxLen]⟩
  · exact ⟨_, _, rfl, h1, h2⟩

theorem oneCell_bytes (l : List Nat) : ∀ u ∈ l.map byteCell, u.oneCell' = true := by
  intro u hu
  obtain ⟨c, _, rfl⟩ := List.mem_map.1 hu
  rfl

/-- Behind an append onto a row of the call's own nothing that was there has turned. -/
theorem below_append {W w w' : World} {base n : Nat} {e : TypeId} {size : Nat} {v : Value} {xs : List Value} (hb : Below W.heap.size W w) (hown : w.ownsRow base e size v n xs) (hbase : W.heap.size ≤ base)
    (hg : w.grownBy w' v.ownBlock) : Below W.heap.size W w' :=
  hb.grown hg hb.size (fun k hk => Nat.le_trans hbase (hown.lt k hk).1)

/-- A text as a string. -/
def strOf (l : List Nat) : ByteArray := ⟨(l.map UInt8.ofNat).toArray⟩

theorem run_convert_txt {P : Program} {w : World} {a : Option Addr} {l : List Nat} (src dst e : TypeId) (hs : P.underlying src = some (.slice e)) (he : P.underlying e = some (.int .u8)) (hd : P.underlying dst = some .string) (h : Txt w a l) (cap : Nat) :
    (convert src dst (.slice a l.length cap)).run P w = .ok (.string (strOf l)) w := by
  rcases Nat.eq_zero_or_pos l.length with h0 | h0
  · have hl : l = [] := List.eq_nil_of_length_eq_zero h0
    subst hl
    rw [run_convert_bytes_string w src dst e a _ cap hs he hd]
    rcases a with _ | x
    · simp [Conv.bytesToString]; rfl
    · rw [run_bytesToString w x _ cap [] (by simp [loadCells, loadCellsFrom])]
      rfl
  · obtain ⟨b, off, rfl, hc⟩ := h.at_ h0
    have hx := run_convert_bytes_arg (P := P) w src e hs he b off l.length cap (l.map fun (u : Nat) => (u : Int)) (by simp) (fun i hi => by
      rw [hc i l[i] (List.getElem?_eq_getElem hi)]
      simp [hi]) dst hd
    rw [hx]
    simp [strOfNums, strOf]

theorem strOf_data (l : List Nat) : (strOf l).data.toList = l.map UInt8.ofNat := rfl
theorem strOf_inj {l m : List Nat} (hl : ∀ c ∈ l, c < 256) (hm : ∀ c ∈ m, c < 256) (h : strOf l = strOf m) : l = m := by
  have h2 : l.map UInt8.ofNat = m.map UInt8.ofNat := by rw [← strOf_data, ← strOf_data, h]
  have h3 : ∀ k : List Nat, (∀ c ∈ k, c < 256) → (k.map UInt8.ofNat).map UInt8.toNat = k := by
    intro k hk
    rw [List.map_map]
    conv => rhs; rw [← List.map_id k]
    apply List.map_congr_left
    intro c hc
    have := hk c hc
    simp only [Function.comp, id]
    exact UInt8.toNat_ofNat_of_lt (by simpa using this)
  rw [← h3 l hl, ← h3 m hm, h2]

end Go.Proofs.YtjcffbhgjmaicaaDoor
