/- A grammar that came in, opened. -/
import Derived.Test.YthpjjlmgdalpaaaB1
import Derived.Deep.SlicePairs
import Derived.Lib.SmallJoins
namespace Go.Proofs.Ythpjjlmgdalpaaa
open Go.ChangeShapes Go.WideShapes Go.RowKit Go.Joins Go.Deep

theorem list_of {α : Type} {Q : Nat → α → Prop} : ∀ (n : Nat), (∀ i, i < n → ∃ x, Q i x) → ∃ l : List α, l.length = n ∧ ∀ (i : Nat) (h : i < l.length), Q i l[i] := by
  intro n
  induction n with
  | zero => intro _; exact ⟨[], rfl, fun i h => by simp at h⟩
  | succ n ih =>
    intro h
    obtain ⟨l, hl, hq⟩ := ih fun i hi => h i (by omega)
    obtain ⟨x, hx⟩ := h n (by omega)
    refine ⟨l ++ [x], by simp [hl], fun i hi => ?_⟩
    by_cases e : i < l.length
    · rw [List.getElem_append_left e]; exact hq i e
    · have : i = n := by simp at hi; omega
      subst this
      rw [List.getElem_append_right (by omega)]
      simpa [hl] using hx
theorem i64_of {n : Int} (h : (Lit.int .i64 n).wf = true) : -9223372036854775808 ≤ n ∧ n ≤ 9223372036854775807 := by
  have h' : (decide (IntKind.i64.min ≤ n) && decide (n ≤ IntKind.i64.max)) = true := h
  rw [Bool.and_eq_true, decide_eq_true_eq, decide_eq_true_eq] at h'
  exact h'
theorem spot_of {W : World} {a : Addr} {v : Value} (h : W.cell? a = some v) : a = ⟨a.block, a.off, none⟩ ∧ a.block < W.heap.size := by
  unfold World.cell? at h
  obtain ⟨b, o, s⟩ := a
  dsimp only at h ⊢
  cases hb : W.heap[b]? with
  | none => rw [hb] at h; cases h
  | some x =>
    have hlt : b < W.heap.size := (Array.getElem?_eq_some_iff.1 hb).1
    refine ⟨?_, hlt⟩
    rw [hb] at h
    cases s with
    | none => rfl
    | some k => cases x <;> simp at h
section
variable {H : Type} {enc : TypeId × Value → H} {w : World} {base : Nat} {spare : Nat → Bool} {held : Bool}
theorem sl_of {A : Addr} {n : Nat} {xs : List Value} (hl : xs.length = n) (h : ∀ i u, xs[i]? = some u → w.cell? (A.add i) = some u) : SlAt w w.heap.size (some A) xs := by
  rcases Nat.eq_zero_or_pos n with h0 | h0
  · subst h0; left; exact List.eq_nil_of_length_eq_zero hl
  · right
    have h1 := h 0 xs[0] (by rw [List.getElem?_eq_getElem])
    have e0 : A.add 0 = A := by simp [Addr.add]
    rw [e0] at h1
    obtain ⟨e, hlt⟩ := spot_of h1
    have hsp : A.spot = none := congrArg Addr.spot e
    obtain ⟨ab, ao, asp⟩ := A
    dsimp only at hsp hlt
    subst hsp
    refine ⟨ab, ao, rfl, hlt, fun j u hu => ?_⟩
    have := h j u hu
    by_cases hj : j = 0
    · subst hj; simpa [Addr.add] using this
    · simpa [Addr.add, hj] using this
theorem gopen_ints {t : TypeId} {fuel : Nat} {v : Value} {y : DataW H × List MemPlace} (ht : Try.prog.underlying t = some (.slice 3)) (h : DataW.trod enc Try.prog w base spare held fuel t [v] = some y) :
    ∃ A c, ∃ l : List Int, v = .slice A l.length c ∧ SlAt w w.heap.size A (ints l) ∧ l.length ≤ c ∧ c ≤ 9223372036854775807 ∧ ∀ s ∈ l, -9223372036854775808 ≤ s ∧ s ≤ 9223372036854775807 := by
  rcases open_slice1 ht (by kernel_rfl) h with ⟨h1, _⟩ | ⟨a, len, cap, m, n, V, D, Pl, h1, _, h2, h3, hm, _, h4⟩
  · injection h1 with h1
    exact ⟨none, 0, [], h1, .nil, Nat.le_refl _, by omega, fun s hs => by cases hs⟩
  · injection h1 with h1
    have hlm : len ≤ m := by rw [hm]; split <;> omega
    obtain ⟨l, hl, hq⟩ := list_of (α := Int) (Q := fun i z => w.cell? (a.add i) = some (.int .i64 z) ∧ -9223372036854775808 ≤ z ∧ z ≤ 9223372036854775807) len fun i hi => by
      obtain ⟨c1, c2⟩ := h4 i (by omega)
      obtain ⟨z, e1, _, hz⟩ := DataW.trod_int Try.underlying3 c2
      injection e1 with e1
      exact ⟨z, by rw [c1, e1], i64_of hz⟩
    refine ⟨some a, cap, l, by rw [h1, hl], sl_of (n := l.length) (by simp) fun i u hu => ?_, by omega, h3, fun s hs => ?_⟩
    · rw [List.getElem?_map] at hu
      obtain ⟨z, hz, rfl⟩ := Option.map_eq_some_iff.1 hu
      obtain ⟨hi, rfl⟩ := List.getElem?_eq_some_iff.1 hz
      exact (hq i hi).1
    · obtain ⟨i, hi, rfl⟩ := List.mem_iff_getElem.1 hs
      exact (hq i hi).2
theorem gopen_strs {t : TypeId} {fuel : Nat} {v : Value} {y : DataW H × List MemPlace} (ht : Try.prog.underlying t = some (.slice 9)) (h : DataW.trod enc Try.prog w base spare held fuel t [v] = some y) :
    ∃ A c, ∃ l : List ByteArray, v = .slice A l.length c ∧ SlAt w w.heap.size A (strs l) ∧ l.length ≤ c ∧ c ≤ 9223372036854775807 ∧ ∀ s ∈ l, s.size ≤ 9223372036854775807 := by
  rcases open_slice1 ht (by kernel_rfl) h with ⟨h1, _⟩ | ⟨a, len, cap, m, n, V, D, Pl, h1, _, h2, h3, hm, _, h4⟩
  · injection h1 with h1
    exact ⟨none, 0, [], h1, .nil, Nat.le_refl _, by omega, fun s hs => by cases hs⟩
  · injection h1 with h1
    have hlm : len ≤ m := by rw [hm]; split <;> omega
    obtain ⟨l, hl, hq⟩ := list_of (α := ByteArray) (Q := fun i z => w.cell? (a.add i) = some (.string z) ∧ z.size ≤ 9223372036854775807) len fun i hi => by
      obtain ⟨c1, c2⟩ := h4 i (by omega)
      obtain ⟨z, e1, _, hz⟩ := DataW.trod_string Try.underlying9 c2
      injection e1 with e1
      exact ⟨z, by rw [c1, e1], hz⟩
    refine ⟨some a, cap, l, by rw [h1, hl], sl_of (n := l.length) (by simp) fun i u hu => ?_, by omega, h3, fun s hs => ?_⟩
    · rw [List.getElem?_map] at hu
      obtain ⟨z, hz, rfl⟩ := Option.map_eq_some_iff.1 hu
      obtain ⟨hi, rfl⟩ := List.getElem?_eq_some_iff.1 hz
      exact (hq i hi).1
    · obtain ⟨i, hi, rfl⟩ := List.mem_iff_getElem.1 hs
      exact (hq i hi).2
theorem gopen_rules {fuel : Nat} {v : Value} {y : DataW H × List MemPlace} (h : DataW.trod enc Try.prog w base spare held fuel 23 [v] = some y) :
    ∃ A c, ∃ l : List Rule, v = .slice A l.length c ∧ RulesAt w w.heap.size A l ∧ l.length ≤ c ∧ c ≤ 9223372036854775807 ∧ ∀ r ∈ l, r.right.length ≤ 9223372036854775807 := by
  rcases open_slice_pairs Try.underlying23 Try.underlying35 (by kernel_rfl) rfl rfl (by kernel_rfl) (by kernel_rfl) h with ⟨h1, _⟩ | ⟨a, len, cap, m, n, V0, V1, D0, D1, P0, P1, h1, _, h2, h3, hm, _, h4⟩
  · injection h1 with h1
    exact ⟨none, 0, [], h1, .inl rfl, Nat.le_refl _, by omega, fun s hs => by cases hs⟩
  · injection h1 with h1
    have hlm : len ≤ m := by rw [hm]; split <;> omega
    obtain ⟨l, hl, hq⟩ := list_of (α := Rule) (Q := fun i r => ∃ C c, w.cell? (a.add (i * 2)) = some (.int .i64 r.left) ∧ w.cell? (a.add (i * 2 + 1)) = some (.slice C r.right.length c) ∧ r.right.length ≤ c ∧ c ≤ 9223372036854775807 ∧ SlAt w w.heap.size C (ints r.right)) len fun i hi => by
      obtain ⟨c0, c1, t0, t1⟩ := h4 i (by omega)
      obtain ⟨z, e1, _, hz⟩ := DataW.trod_int Try.underlying3 t0
      injection e1 with e1
      obtain ⟨C, c, r, e2, k1, k2, k3, _⟩ := gopen_ints Try.underlying26 t1
      exact ⟨⟨z, r⟩, C, c, by rw [c0, e1], by rw [c1, e2], k2, k3, k1⟩
    refine ⟨some a, cap, l, by rw [h1, hl], ?_, by omega, h3, fun s hs => ?_⟩
    · rcases Nat.eq_zero_or_pos l.length with h0 | h0
      · left; exact List.eq_nil_of_length_eq_zero h0
      · right
        obtain ⟨_, _, c0, _⟩ := hq 0 h0
        have e0 : a.add (0 * 2) = a := by simp [Addr.add]
        rw [e0] at c0
        obtain ⟨e, hlt⟩ := spot_of c0
        have hsp : a.spot = none := congrArg Addr.spot e
        obtain ⟨ab, ao, asp⟩ := a
        dsimp only at hsp hlt
        subst hsp
        refine ⟨ab, ao, rfl, hlt, fun k hk => ?_⟩
        obtain ⟨C, c, q1, q2, q3, _, q5⟩ := hq k hk
        have ea : ∀ x, (⟨ab, ao, none⟩ : Addr).add x = ⟨ab, ao + x, none⟩ := fun x => by
          unfold Addr.add; split
          · next h => subst h; rfl
          · rfl
        rw [ea] at q1 q2
        exact ⟨C, c, q1, by rw [Nat.add_assoc]; exact q2, q3, q5⟩
    · obtain ⟨i, hi, rfl⟩ := List.mem_iff_getElem.1 hs
      obtain ⟨C, c, _, _, q3, q4, _⟩ := hq i hi
      omega
set_option maxRecDepth 100000 in
theorem open_gram {r : Reach} {b0 : Nat} {v : Value} {d : DataW H} {p : List MemPlace} (hv : Value.okWide Try.prog w r b0 25 v) (h : DataW.Trod enc Try.prog w base spare held 25 v d p) :
    ∃ (u : GV) (g : G), v = .agg #[.slice u.An g.names.length u.cn, .slice u.At g.terms.length u.ct, .slice u.Ar g.rules.length u.cr] ∧ GAt w w.heap.size u g := by
  obtain ⟨c0, c1, c2, y0, y1, y2, m, rfl, _, _, h0, h1, h2⟩ := open_agg3 Try.underlying25 (by kernel_rfl) (by kernel_rfl) hv h
  obtain ⟨A0, k0, l0, rfl, a1, a2, a3, a4⟩ := gopen_strs Try.underlying22 h0
  obtain ⟨A1, k1, l1, rfl, b1, b2, b3, b4⟩ := gopen_strs Try.underlying22 h1
  obtain ⟨A2, k2, l2, rfl, e1, e2, e3, e4⟩ := gopen_rules h2
  exact ⟨⟨A0, k0, A1, k1, A2, k2⟩, ⟨l0, l1, l2⟩, rfl, ⟨a1, b1, e1, ⟨a2, a3⟩, ⟨b2, b3⟩, ⟨e2, e3⟩, a4, b4, e4⟩⟩
end
end Go.Proofs.Ythpjjlmgdalpaaa
