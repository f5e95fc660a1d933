/- Words and sets of words: Cut, Cat, Of. -/
import Derived.Test.YthpjjlmgdalpaaaB21
import Derived.Sort.OwnSorted
import Derived.Lib.OwnBridge
import Derived.Laws.AppendOwnNone
namespace Go.Proofs.Ythpjjlmgdalpaaa
open Go.RowKit

abbrev bl (s : ByteArray) : List UInt8 := s.data.toList
/-- A list of words as cells. -/
abbrev wsv (l : List (List UInt8)) : List Value := l.map Proofs.encStr
theorem wsv_at (l : List (List UInt8)) (k : Nat) (h : k < l.length) : (wsv l)[k]? = some (.string ⟨l[k].toArray⟩) := by
  rw [List.getElem?_map, List.getElem?_eq_getElem h]; rfl

/-- A slice value that reads as xs (one cell an element). -/
def SV (w : World) (B : Nat) (v : Value) (xs : List Value) : Prop := ∃ A c, v = .slice A xs.length c ∧ xs.length ≤ c ∧ c ≤ 9223372036854775807 ∧ SlAt w B A xs ∧ (A = none → c = 0)
section
variable {w w' : World} {B B' : Nat} {v : Value} {xs : List Value}
theorem SV.more (h : SV w B v xs) (hB : B ≤ B') : SV w B' v xs := let ⟨A, c, h1, h2, h3, h4, h5⟩ := h; ⟨A, c, h1, h2, h3, h4.more hB, h5⟩
theorem SV.below (h : SV w B v xs) (hb : Below B w w') : SV w' B v xs := let ⟨A, c, h1, h2, h3, h4, h5⟩ := h; ⟨A, c, h1, h2, h3, h4.below hb, h5⟩
theorem SV.call (h : SV w w.heap.size v xs) (hb : Below w.heap.size w w') : SV w' w'.heap.size v xs := (h.below hb).more hb.size
theorem SV.heap (h : SV w B v xs) (hW : w'.heap = w.heap) : SV w' B v xs := let ⟨A, c, h1, h2, h3, h4, h5⟩ := h; ⟨A, c, h1, h2, h3, h4.heap hW, h5⟩
theorem SV.keep (h : SV w B v xs) (hk : ∀ p : Addr, p.block < B → w'.cell? p = w.cell? p) : SV w' B v xs := let ⟨A, c, h1, h2, h3, h4, h5⟩ := h; ⟨A, c, h1, h2, h3, h4.keep hk, h5⟩
theorem SV.nil : SV w B (.slice none 0 0) [] := ⟨none, 0, rfl, by simp, by omega, .inl rfl, fun _ => rfl⟩
theorem SV.of_own {e : TypeId} (h : Own w B' e v xs) : SV w w.heap.size v xs := by
  have h' := h
  obtain ⟨A, c, h1, h2, h3, h4, h5⟩ := h.form
  refine ⟨A, c, h1, h2, h3, h4, fun hn => ?_⟩
  rcases h'.2 with ⟨e1, _⟩ | ⟨g, cap, cur, e1, _⟩
  · rw [h1] at e1; injection e1
  · rw [h1, hn] at e1; injection e1 with e1; cases e1
end

theorem wp_appendS {P : Program} (w0 W : World) {ops : Array Oper} {rest : List Oper} {o : Oper} {a : Act} {Q : Exit → Act → World → Prop} (hgd : o.guard = none) (s x : Operand) (t : TypeId)
    (ho : o.op = .call { callee := .builtin .append, args := #[s, x], argTypes := #[t, t] }) (B : Nat) (e : TypeId) (z : Value) (bytes : Nat) (ht : P.underlying t = some (.slice e))
    (hinfo : (P.info? e).map (fun i => (i.zero, i.size, i.bytes)) = some (some z, 1, bytes)) (hz1 : z.cells.size = 1)
    (v : Value) (xs : List Value) (hs : a.eval s = v) (hown : Own W B e v xs) (u : Value) (ys : List Value) (hx : a.eval x = u) (hu : SV W W.heap.size u ys) (h1 : ∀ y ∈ ys, y.oneCell' = true)
    (hbytes : (xs.length + ys.length) * bytes ≤ 140737488355328) (hb : Below B w0 W) (hB : B ≤ w0.heap.size) (hbp : 0 < bytes)
    (K : ∀ v' w', Own w' B e v' (xs ++ ys) → Below B w0 w' → W.grownBy w' v.ownBlock → wpList P ops Q rest (a.put o.dst v') w') :
    wpList P ops Q (o :: rest) a W := by
  obtain ⟨i0, hi, hz0, hz2, hz3⟩ := info_parts hinfo
  have hBW := Nat.le_trans hB hb.size
  have hlen : xs.length + ys.length ≤ 140737488355328 := Nat.le_trans (Nat.le_mul_of_pos_right _ hbp) hbytes
  obtain ⟨A, c, rfl, hc1, hc2, hA, hAn⟩ := hu
  cases A with
  | none =>
    obtain rfl := hAn rfl
    obtain rfl : ys = [] := List.eq_nil_of_length_eq_zero (by omega)
    refine wpList_append_own_none hgd s x t ho B e i0 1 ht hi v xs.length xs hs hown (by simpa using hx) (K v W (by simpa using hown) hb (World.grownBy.refl _ _))
  | some ad =>
    refine wpList_append_own _ hgd s x t ho B e i0 z 1 bytes ht hi hz0 hz2 hz3 hz1 (by decide) v xs.length xs hs hown ad ys.length c ys hx (by simp) (fun j y hy => ?_) h1 (by unfold maxLen; omega) hbytes hBW fun v' w' h2 h3 h4 => K v' w' ?_ ?_ h3
    · rcases hA with rfl | ⟨b, off, e1, e2, e3⟩
      · simp at hy
      · injection e1 with e1; subst e1
        have : (⟨b, off, none⟩ : Addr).add j = ⟨b, off + j, none⟩ := by unfold Addr.add; split <;> simp_all
        rw [this]; exact e3 j y hy
    · unfold Own; simpa using h2
    · exact Below.of_grown hB hb h3 fun k hk => (hown.block k hk).1

theorem wsv_oneCell (l : List (List UInt8)) : ∀ y ∈ wsv l, y.oneCell' = true := by
  intro y hy
  obtain ⟨x, _, rfl⟩ := List.mem_map.1 hy
  rfl

/-! ### words -/
theorem wcut_any (s : ByteArray) (k : Int) (w : World) (hs : s.size ≤ 9223372036854775807) :
    Calls Try.prog 58 #[.string s, .int .i64 k] w fun e w' => e = .returned (.string ⟨((bl s).take k.toNat).toArray⟩) ∧ w = w' := by
  go_enter Try.func58, Try.ntmps58
  go_wp2_with fail
  go_ret
  refine ⟨ret_s ?_, rfl⟩
  apply ba_ext
  rw [ByteArray.data_extract, Array.toList_extract]
  simp only [bl, List.extract_eq_take_drop, List.drop_zero, Nat.sub_zero]
  rw [show (max 0 (min k ↑s.size)).toNat = min k.toNat s.size by omega]
  have hl : s.data.toList.length = s.size := by simp
  rw [← hl, List.take_eq_take_iff]
  omega

theorem wcat_any (k : Int) (x y : List UInt8) (A : Addr) (c : Nat) (w : World) (hA : SlAt w w.heap.size (some A) (wsv [x, y])) (hx : x.length + y.length ≤ 1000000000000) (hc : 2 ≤ c) :
    Calls Try.prog 117 #[.int .i64 k, .slice (some A) 2 c] w fun e w' => e = .returned (.string ⟨((x ++ y).take k.toNat).toArray⟩) ∧ w = w' := by
  obtain ⟨b, off, e1, hb, hcs⟩ := hA.at_ (k := 0) (by simp)
  injection e1 with e1; subst e1
  have c1 : w.cell? ⟨b, off, none⟩ = some (.string ⟨x.toArray⟩) := hcs 0 _ rfl
  have c2 : w.cell? ⟨b, off + 1, none⟩ = some (.string ⟨y.toArray⟩) := hcs 1 _ rfl
  clear hcs hA
  have sx : (⟨x.toArray⟩ : ByteArray).size = x.length := by simp [ByteArray.size]
  have sy : (⟨y.toArray⟩ : ByteArray).size = y.length := by simp [ByteArray.size]
  generalize hX : (⟨x.toArray⟩ : ByteArray) = X at c1 sx
  generalize hY : (⟨y.toArray⟩ : ByteArray) = Y at c2 sy
  have bX : bl X = x := by rw [← hX]
  have bY : bl Y = y := by rw [← hY]
  have HX := hide (And.intro bX bY)
  have Hcut := hide (fun (s : ByteArray) (hs : s.size ≤ 9223372036854775807) => wcut_any s k w hs)
  clear hX hY bX bY
  have hsz : (X ++ Y).size = x.length + y.length := by rw [ByteArray.size_append, sx, sy]
  go_enter Try.func117, Try.ntmps117
  go_wp2_with fail
  go_loop [5, 10] (fun out i => ∃ (j : Nat) (o : ByteArray), j ≤ 2 ∧ i = .int .i64 j ∧ out = .string o ∧ Hid (bl o = ([x, y].take j).flatten)) (fun _ i => 2 - (intOf i).toNat)
  case atStart => exact ⟨0, _, by omega, rfl, rfl, rfl⟩
  case round =>
    obtain ⟨j, o, hj, rfl, rfl, ho⟩ := hrel
    have hos : o.size = (([x, y].take j).flatten).length := by rw [← ho.out]; simp
    have hend : (k ≤ o.size ∨ j = 2) → Ending.returned (.string ⟨((bl o).take k.toNat).toArray⟩) = .returned (.string ⟨((x ++ y).take k.toNat).toArray⟩) := by
      intro h
      refine ret_s ?_
      apply ba_ext
      simp only
      rw [ho.out]
      have : j = 0 ∨ j = 1 ∨ j = 2 := by omega
      rcases this with rfl | rfl | rfl
      · rcases h with h | h
        · have hos1 : o.size = 0 := by rw [hos]; simp
          have : k.toNat = 0 := by omega
          rw [this]; simp
        · omega
      · rcases h with h | h
        · have hos1 : o.size = x.length := by rw [hos]; simp
          have hkl : k.toNat ≤ x.length := by omega
          simp [List.take_append_of_le_length hkl]
        · omega
      · simp
    have Hend := hide hend
    have Ho := hide ho
    clear hend ho
    have hj3 : j = 0 ∨ j = 1 ∨ j = 2 := by omega
    rcases hj3 with rfl | rfl | rfl
    · simp only [List.take_zero, List.flatten_nil, List.length_nil] at hos
      have hs2 : (o ++ X).size = x.length := by rw [ByteArray.size_append, hos, sx]; omega
      by_cases hk : k ≤ 0
      · go_wp2_with (go_at_call 58; refine (Hcut.out _ (by omega)).mono ?_; rintro e w' ⟨rfl, rfl⟩)
        all_goals first | (exfalso; omega) | skip
        go_ret
        exact ⟨Hend.out (.inl (by omega)), rfl⟩
      · go_wp2_with fail
        all_goals first | (exfalso; omega) | skip
        go_round
        case rel => exact ⟨1, _, by omega, rfl, rfl, by rw [Hid]; show (o ++ X).data.toList = _; rw [ByteArray.data_append, Array.toList_append]; have := Ho.out.out; simp only [bl] at this; rw [this]; have := HX.out.1; simp only [bl] at this; rw [this]; simp⟩
        case measure => simp [intOf]
    · simp only [List.take_succ_cons, List.take_zero, List.flatten_cons, List.flatten_nil, List.append_nil] at hos
      have hs2 : (o ++ Y).size = x.length + y.length := by rw [ByteArray.size_append, hos, sy]
      by_cases hk : k ≤ o.size
      · go_wp2_with (go_at_call 58; refine (Hcut.out _ (by omega)).mono ?_; rintro e w' ⟨rfl, rfl⟩)
        all_goals first | (exfalso; omega) | skip
        go_ret
        exact ⟨Hend.out (.inl (by omega)), rfl⟩
      · go_wp2_with fail
        all_goals first | (exfalso; omega) | skip
        go_round
        case rel => exact ⟨2, _, by omega, rfl, rfl, by rw [Hid]; show (o ++ Y).data.toList = _; rw [ByteArray.data_append, Array.toList_append]; have := Ho.out.out; simp only [bl] at this; rw [this]; have := HX.out.2; simp only [bl] at this; rw [this]; simp⟩
        case measure => simp [intOf]
    · have hos2 : o.size ≤ 1000000000000 := by rw [hos]; simp; omega
      go_wp2_with (go_at_call 58; refine (Hcut.out _ (by omega)).mono ?_; rintro e w' ⟨rfl, rfl⟩)
      go_ret
      exact ⟨Hend.out (.inr (by trivial)), rfl⟩
end Go.Proofs.Ythpjjlmgdalpaaa
