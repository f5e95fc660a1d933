/- Well-made grammars: each nonterminal derives something, and stands in something that the first one derives. -/
import Derived.Test.YthpjjlmgdalpaaaP4
import Derived.Test.YthpjjlmgdalpaaaE7
namespace Go.Proofs.Ythpjjlmgdalpaaa
open Go.RowKit

theorem getD_setT {P : List Bool} {k i : Nat} (h : (P.set k true).getD i false = true) : i = k ∨ P.getD i false = true := by
  by_cases e : i = k
  · exact .inl e
  · right
    simp only [List.getD] at *
    rwa [List.getElem?_set_ne (fun h => e h.symm)] at h
section
variable {g : G}
def GoodP (g : G) (P : List Bool) : Prop := ∀ i : Nat, P.getD i false = true → ∃ y, Der g.rules [(i : Int)] y
theorem prodStep_good (hv : VG g) {r : Rule} (hr : r ∈ g.rules) {P : List Bool} (h : GoodP g P) : GoodP g (prodStep P r) := by
  unfold prodStep
  split
  · next ha =>
    intro i hi
    rcases getD_setT hi with rfl | hi
    · obtain ⟨f1, f2, f3, f4⟩ := hv.ru r hr
      rw [Int.toNat_of_nonneg f1]
      have : ∀ l : List Int, (∀ s ∈ l, s ∈ r.right) → ∃ y, Der g.rules l y := by
        intro l
        induction l with
        | nil => intro _; exact ⟨[], .nil⟩
        | cons s l ih =>
          intro hl
          obtain ⟨y, hy⟩ := ih fun t ht => hl t (.tail _ ht)
          have hs := hl s (.head _)
          have hok := List.all_eq_true.1 ha s hs
          unfold okB at hok
          by_cases h0 : s < 0
          · refine ⟨UInt8.ofNat (-1 - s).toNat :: y, .term h0 ?_ hy⟩
            have := f4 s hs
            have := hv.sy
            rw [UInt8.toNat_ofNat']; omega
          · rw [decide_eq_false h0, Bool.false_or] at hok
            obtain ⟨x, hx⟩ := h s.toNat hok
            rw [Int.toNat_of_nonneg (by omega)] at hx
            exact ⟨x ++ y, Der.app (a := [s]) hx hy⟩
      obtain ⟨y, hy⟩ := this r.right fun _ h => h
      exact ⟨y, Der.rule hr f1 hy⟩
    · exact h i hi
  · exact h
theorem fold_good {f : List Bool → Rule → List Bool} {Q : List Bool → Prop} {rs : List Rule} (hf : ∀ P r, r ∈ rs → Q P → Q (f P r)) : ∀ (l : List Rule) (P : List Bool), (∀ r ∈ l, r ∈ rs) → Q P → Q (l.foldl f P) := by
  intro l
  induction l with
  | nil => intro P _ h; exact h
  | cons r l ih => intro P hl h; exact ih _ (fun r hr => hl r (.tail _ hr)) (hf P r (hl r (.head _)) h)
theorem prodN_good (hv : VG g) : ∀ k, GoodP g (prodN g k)
  | 0 => fun i hi => by
    exfalso
    simp only [prodN, List.getD, List.getElem?_replicate] at hi
    split at hi <;> simp at hi
  | k + 1 => fold_good (Q := GoodP g) (fun _ _ hr h => prodStep_good hv hr h) _ _ (fun _ h => h) (prodN_good hv k)
/-- Each nonterminal derives something. -/
theorem WM.prd (h : WM g) : ∀ s, s < g.names.length → ∃ y, Der g.rules [(s : Int)] y := fun s hs => prodN_good h.vg _ s (h.pr s hs)
theorem WM.prdS (h : WM g) (syms : List Int) (hs : ∀ s ∈ syms, s < g.names.length ∧ -(g.terms.length : Int) ≤ s) : Prd g.rules g.names.length syms := fun s hm => ⟨by have := hs s hm; have := h.vg.sy; have := h.vg.n1; omega, (hs s hm).1, fun h0 => by
  have := h.prd s.toNat (by have := hs s hm; omega)
  rwa [Int.toNat_of_nonneg h0] at this⟩

/-- What can stand behind a nonterminal, up to the end. -/
inductive Fol (rs : List Rule) : Int → List UInt8 → Prop
  | start : Fol rs 0 []
  | step {u : Rule} {pre post : List Int} {a : Int} {x y : List UInt8} : u ∈ rs → 0 ≤ u.left → u.right = pre ++ a :: post → 0 ≤ a → Der rs post x → Fol rs u.left y → Fol rs a (x ++ y)
def GoodR (g : G) (P : List Bool) : Prop := ∀ i : Nat, P.getD i false = true → ∃ y, Fol g.rules (i : Int) y
theorem reachStep_good (hw : WM g) {r : Rule} (hr : r ∈ g.rules) {P : List Bool} (h : GoodR g P) : GoodR g (reachStep P r) := by
  unfold reachStep
  obtain ⟨f1, f2, f3, f4⟩ := hw.vg.ru r hr
  have : ∀ (l pre : List Int) (P : List Bool), r.right = pre ++ l → GoodR g P → GoodR g (l.foldl (reach1 r.left.toNat) P) := by
    intro l
    induction l with
    | nil => intro pre P _ h; exact h
    | cons s l ih =>
      intro pre P he h
      rw [List.foldl_cons]
      refine ih (pre ++ [s]) _ (by rw [he]; simp) ?_
      unfold reach1
      split
      · next hc =>
        obtain ⟨h1, h2⟩ := Bool.and_eq_true_iff.1 hc
        have h0 := of_decide_eq_true h1
        intro i hi
        rcases getD_setT hi with rfl | hi
        · obtain ⟨y, hy⟩ := h _ h2
          rw [Int.toNat_of_nonneg f1] at hy
          obtain ⟨x, hx⟩ := (hw.prdS l fun t ht => f4 t (by rw [he]; simp [ht])).der
          rw [Int.toNat_of_nonneg h0]
          exact ⟨x ++ y, .step hr f1 he h0 hx hy⟩
        · exact h i hi
      · exact h
  exact this r.right [] P rfl h
theorem reachN_good (hw : WM g) : ∀ k, GoodR g (reachN g k)
  | 0 => fun i hi => by
    simp only [reachN] at hi
    rcases getD_setT hi with rfl | hi
    · exact ⟨[], .start⟩
    · exfalso
      simp only [List.getD, List.getElem?_replicate] at hi
      split at hi <;> simp at hi
  | k + 1 => fold_good (Q := GoodR g) (fun _ _ hr h => reachStep_good hw hr h) _ _ (fun _ h => h) (reachN_good hw k)
theorem WM.fol (h : WM g) : ∀ s, s < g.names.length → ∃ y, Fol g.rules (s : Int) y := fun s hs => reachN_good h _ s (h.re s hs)

/-- Whether the word is among the first k letters of what comes of the symbols: by the table, and by derivations. -/
theorem firP_iff {rs : List Rule} {wl : List UInt8} {n : Nat} {E : Nat → Nat → Nat → Bool} {F : Nat → Nat → Bool} (hS : Snd rs wl n E F) (hC : Cls rs wl E F) {syms : List Int} (hP : Prd rs n syms) (k : Nat) : FirP wl E F k syms ↔ ∃ x, Der rs syms x ∧ wl = x.take k := by
  constructor
  · rintro (⟨h1, h2⟩ | ⟨h1, h2⟩)
    · obtain ⟨y, hy⟩ := beg_der hS syms 0 hP (by omega) h2
      refine ⟨_, hy, ?_⟩
      rw [List.drop_zero, List.take_append_of_le_length (by omega), List.take_of_length_le (by omega)]
    · obtain ⟨_, h3⟩ := path_der hS syms 0 wl.length (fun s hs => (hP s hs).2.1) (by omega) (Nat.le_refl _) h2
      refine ⟨_, h3, ?_⟩
      simp only [seg, List.take_length, List.drop_zero]
      rw [List.take_of_length_le (by omega)]
  · rintro ⟨x, hx, he⟩
    have hl : wl.length = min k x.length := by rw [he, List.length_take]
    rcases Nat.lt_or_ge x.length k with h | h
    · right
      rw [List.take_of_length_le (by omega)] at he
      subst he
      refine ⟨by omega, ?_⟩
      have := der_path hC hx 0 (by omega) (by simp)
      simpa using this
    · left
      refine ⟨by omega, der_beg hC hx 0 (by omega) ?_⟩
      rw [he, List.drop_zero]
      exact List.take_prefix _ _
end
end Go.Proofs.Ythpjjlmgdalpaaa
