/- Slices that a call builds by append; gram.Of. -/
import Derived.Test.YthpjjlmgdalpaaaB9
import Derived.OwnWalk
import Derived.Maps.AppendAt
namespace Go.Proofs.Ythpjjlmgdalpaaa
open Go.RowKit

/-- A slice of one-cell elements, the call's own, that holds xs. -/
def Own (w : World) (B : Nat) (e : TypeId) (v : Value) (xs : List Value) : Prop := w.ownsRow B e 1 v xs.length xs
section
variable {w w' : World} {B : Nat} {e : TypeId} {v : Value} {xs : List Value}
theorem Own.nil (w : World) (B : Nat) (e : TypeId) : Own w B e (.slice none 0 0) [] := World.ownsRow_nil ..
theorem Own.block (h : Own w B e v xs) : ∀ k, v.ownBlock = some k → B ≤ k ∧ k < w.heap.size := World.ownsRow.lt h
theorem Own.alloc (h : Own w B e v xs) (o : Obj) : Own (w.alloc o) B e v xs := World.ownsRow.alloc h o
theorem Own.heap (h : Own w B e v xs) (hW : w'.heap = w.heap) : Own w' B e v xs := by
  unfold Own World.ownsRow at *; rw [hW]; exact h
theorem Own.drewN (h : Own w B e v xs) (n : Nat) : Own (w.drewN n) B e v xs := h.heap rfl
theorem Own.below {C : Nat} (h : Own w B e v xs) (hb : Below C w w') (hC : w.heap.size ≤ C) : Own w' B e v xs := by
  obtain ⟨h1, h2⟩ := h
  refine ⟨h1, h2.imp id ?_⟩
  rintro ⟨g, cap, cur, e1, e2, e3, e4⟩
  have : g < w.heap.size := (Array.getElem?_eq_some_iff.1 e3).1
  exact ⟨g, cap, cur, e1, e2, (hb.block g (by omega)).trans e3, e4⟩
theorem Own.form (h : Own w B e v xs) : ∃ A c, v = .slice A xs.length c ∧ xs.length ≤ c ∧ c ≤ 9223372036854775807 ∧ SlAt w w.heap.size A xs ∧ (xs ≠ [] → ∃ g, A = some ⟨g, 0, none⟩ ∧ B ≤ g ∧ g < w.heap.size) := by
  have h' := h
  obtain ⟨h1, h2⟩ := h
  rcases h2 with ⟨rfl, h3⟩ | ⟨g, cap, cur, rfl, h4, h5, h6, h7, _⟩
  · have hx : xs = [] := List.eq_nil_of_length_eq_zero h3
    subst hx
    exact ⟨none, 0, rfl, by simp, by omega, .inl rfl, fun h => absurd rfl h⟩
  · have : g < w.heap.size := (Array.getElem?_eq_some_iff.1 h5).1
    exact ⟨_, cap, rfl, h6, h7, SlAt.of_own h', fun _ => ⟨g, rfl, h4, this⟩⟩
end
theorem Below.of_grown {B : Nat} {a b c : World} {v : Value} (hB : B ≤ a.heap.size) (h : Below B a b) (g : b.grownBy c v.ownBlock) (hv : ∀ k, v.ownBlock = some k → B ≤ k) : Below B a c := h.grown g (Nat.le_trans hB h.size) (fun j hj => hv j hj)

theorem wp_push {P : Program} (w0 W : World) {ops : Array Oper} {rest : List Oper} {o : Oper} {a : Act} {Q : Exit → Act → World → Prop} (hgd : o.guard = none) (s x : Operand) (t : TypeId)
    (ho : o.op = .call { callee := .builtin .append, args := #[s, x], argTypes := #[t, t] }) (B : Nat) (e : TypeId) (z : Value) (bytes : Nat) (ht : P.underlying t = some (.slice e))
    (hinfo : (P.info? e).map (fun i => (i.zero, i.size, i.bytes)) = some (some z, 1, bytes)) (hz1 : z.cells.size = 1)
    (v : Value) (xs : List Value) (hs : a.eval s = v) (hown : Own W B e v xs) (u : Value) (hx : ∃ p, a.eval x = .slice (some ⟨p, 0, none⟩) 1 1 ∧ p = W.heap.size) (h1 : u.oneCell' = true)
    (hbytes : (xs.length + 1) * bytes ≤ 140737488355328) (hb : Below B w0 W) (hB : B ≤ w0.heap.size) (hbp : 0 < bytes)
    (K : ∀ v' w', Own w' B e v' (xs ++ [u]) → Below B w0 w' → (W.alloc (.cells #[u] e)).grownBy w' v.ownBlock → v' ≠ .slice none 0 0 → wpList P ops Q rest (a.put o.dst v') w') :
    wpList P ops Q (o :: rest) a (W.alloc (.cells #[u] e)) := by
  obtain ⟨i0, hi, hz0, hz2, hz3⟩ := info_parts hinfo
  obtain ⟨p, hx, rfl⟩ := hx
  have hBW := Nat.le_trans hB hb.size
  have hlen : xs.length + 1 ≤ 140737488355328 := Nat.le_trans (Nat.le_mul_of_pos_right _ hbp) hbytes
  refine wpList_append_own _ hgd s x t ho B e i0 z 1 bytes ht hi hz0 hz2 hz3 hz1 (by decide) v xs.length xs hs (hown.alloc _) ⟨W.heap.size, 0, none⟩ 1 1 [u] hx rfl (cell_one_new _ _ _) (by simpa using h1) (by unfold maxLen; omega) hbytes (Nat.le_trans hBW (by simp)) fun v' w' h2 h3 h4 => K v' w' ?_ ?_ h3 ?_
  · unfold Own; simpa using h2
  · exact Below.of_grown hB (hb.alloc hBW _) h3 fun k hk => (hown.block k hk).1
  · intro he
    have := (h4.1 he).2
    cases this
theorem infoI : (Try.prog.info? 3).map (fun i => (i.zero, i.size, i.bytes)) = some (some (.int .i64 0), 1, 8) := by kernel_rfl
theorem infoS : (Try.prog.info? 9).map (fun i => (i.zero, i.size, i.bytes)) = some (some (.string ByteArray.empty), 1, 16) := by kernel_rfl

/-- The places of a nonterminal's rules, among the first n. -/
def ofN (rs : List Rule) (left : Int) (n : Nat) : List Int := ((List.range n).filter (fun i => decide ((rs.getD i ⟨0, []⟩).left = left))).map Int.ofNat
theorem ofN_le (rs : List Rule) (left : Int) (n : Nat) : (ofN rs left n).length ≤ n := by
  unfold ofN; rw [List.length_map]; exact Nat.le_trans (List.length_filter_le _ _) (by simp)
theorem ofN_yes (rs : List Rule) (left : Int) (n : Nat) (h : n < rs.length) (hl : rs[n].left = left) : ofN rs left (n + 1) = ofN rs left n ++ [(n : Int)] := by
  unfold ofN
  have : rs.getD n ⟨0, []⟩ = rs[n] := by simp [List.getD, h]
  rw [List.range_succ, List.filter_append, List.filter_cons, this, hl]
  simp
theorem ofN_no (rs : List Rule) (left : Int) (n : Nat) (h : n < rs.length) (hl : rs[n].left ≠ left) : ofN rs left (n + 1) = ofN rs left n := by
  unfold ofN
  have : rs.getD n ⟨0, []⟩ = rs[n] := by simp [List.getD, h]
  rw [List.range_succ, List.filter_append, List.filter_cons, this, decide_eq_false hl]
  simp
theorem ofN_mem (rs : List Rule) (left : Int) (i : Int) : i ∈ ofN rs left rs.length ↔ ∃ k : Nat, ∃ h : k < rs.length, i = k ∧ rs[k].left = left := by
  unfold ofN
  simp only [List.mem_map, List.mem_filter, List.mem_range, decide_eq_true_iff]
  constructor
  · rintro ⟨k, ⟨h1, h2⟩, rfl⟩
    have : rs.getD k ⟨0, []⟩ = rs[k] := by simp [List.getD, h1]
    rw [this] at h2
    exact ⟨k, h1, rfl, h2⟩
  · rintro ⟨k, h1, rfl, h2⟩
    have : rs.getD k ⟨0, []⟩ = rs[k] := by simp [List.getD, h1]
    exact ⟨k, ⟨h1, by rw [this]; exact h2⟩, rfl⟩

set_option maxRecDepth 8000 in
theorem of_any (v : GV) (g : G) (left : Int) (w : World) (hg : GAt w w.heap.size v g) (hsm : g.rules.length ≤ 1000000) :
    Calls Try.prog 97 #[.agg #[.slice v.An g.names.length v.cn, .slice v.At g.terms.length v.ct, .slice v.Ar g.rules.length v.cr], .int .i64 left] w fun e w' => ∃ x, e = .returned x ∧ Own w' w.heap.size 3 x (ints (ofN g.rules left g.rules.length)) ∧ Below w.heap.size w w' := by
  have b0 := hide (Bx.self (w := w) (cs := #[.slice v.An g.names.length v.cn, .slice v.At g.terms.length v.ct, .slice v.Ar g.rules.length v.cr]) (T := 25))
  have Hr := hide hg.r
  have hr := hg.hr
  clear hg
  obtain ⟨An, cn, At, ct, Ar, cr⟩ := v
  dsimp only at b0 Hr hr
  go_enter Try.func97, Try.ntmps97
  go_wp2
  go_loopw [5, 11] (fun v i V => ∃ W, W = V ∧ Below w.heap.size w W ∧ ∃ k : Nat, k ≤ g.rules.length ∧ i = .int .i64 k ∧ Own W w.heap.size 3 v (ints (ofN g.rules left k))) (fun _ i _ => g.rules.length - (intOf i).toNat)
  case atStart => exact ⟨_, rfl, b0.out.below, 0, Nat.zero_le _, rfl, Own.nil _ _ _⟩
  case round =>
    obtain ⟨W, rfl, hb, k, hk, rfl, hown⟩ := hrel
    by_cases hlt : k < g.rules.length
    · obtain ⟨b, off, rfl, hbb, C, c', k1, k2, k3, k4⟩ := Hr.out.at_ hlt
      have c1 := (hb.cell hbb).trans k1
      have c2 := (hb.cell hbb).trans k2
      have hsz := hb.size
      have hb2 := hb.alloc hsz (.cells #[.int .i64 g.rules[k].left, .slice C g.rules[k].right.length c'] 35)
      have hown2 := hown.alloc (.cells #[.int .i64 g.rules[k].left, .slice C g.rules[k].right.length c'] 35)
      have Hb := hide hb2; have Hown := hide hown2
      have hle := ofN_le g.rules left k
      clear hb hb2 k1 k2 k3 k4 hbb hown hown2 b0
      by_cases he : g.rules[k].left = left
      · have He := hide (ofN_yes g.rules left k hlt he)
        subst he
        go_wp2_with (first | (at_builtin; go_must (refine wp_push w _ rfl _ _ _ rfl w.heap.size 3 (.int .i64 0) 8 Try.underlying26 infoI rfl _ _ rfl Hown.out (.int .i64 k) ⟨_, rfl, by simp⟩ rfl (by simp; omega) Hb.out (Nat.le_refl _) (by decide) ?_); intro v' w1 h1 h2 h3 h4) | go_in)
        go_roundw
        case rel => exact ⟨_, rfl, h2, k + 1, by omega, by go_num, by rw [He.out]; simpa using h1⟩
        case measure => simp [intOf]; omega
      · have He := hide (ofN_no g.rules left k hlt he)
        go_wp2_with fail
        go_roundw
        case rel => exact ⟨_, rfl, Hb.out, k + 1, by omega, by go_num, by rw [He.out]; exact Hown.out⟩
        case measure => simp [intOf]; omega
    · obtain rfl : k = g.rules.length := by omega
      go_wp2_with fail
      go_ret
      exact ⟨_, rfl, hown, hb⟩
end Go.Proofs.Ythpjjlmgdalpaaa
