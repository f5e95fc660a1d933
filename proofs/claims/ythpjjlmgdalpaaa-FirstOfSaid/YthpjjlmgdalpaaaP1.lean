/- Derivations: what a string of symbols derives; tables and derivations. -/
import Derived.Test.YthpjjlmgdalpaaaE4
namespace Go.Proofs.Ythpjjlmgdalpaaa
open Go.RowKit

/-- What a string of symbols derives: words of terminals. -/
inductive Der (rs : List Rule) : List Int → List UInt8 → Prop
  | nil : Der rs [] []
  | term {s : Int} {c : UInt8} {r : List Int} {x : List UInt8} : s < 0 → (c.toNat : Int) = -1 - s → Der rs r x → Der rs (s :: r) (c :: x)
  | non {u : Rule} {r : List Int} {x y : List UInt8} : u ∈ rs → 0 ≤ u.left → Der rs u.right x → Der rs r y → Der rs (u.left :: r) (x ++ y)

section
variable {rs : List Rule}
theorem Der.app {a b : List Int} {x y : List UInt8} (h : Der rs a x) (h2 : Der rs b y) : Der rs (a ++ b) (x ++ y) := by
  induction h with
  | nil => exact h2
  | term h0 h1 _ ih => exact .term h0 h1 ih
  | non h0 h1 h3 _ _ ih => rw [List.append_assoc]; exact .non h0 h1 h3 ih
theorem Der.cons_inv {s : Int} {r : List Int} {z : List UInt8} (h : Der rs (s :: r) z) : ∃ x y, z = x ++ y ∧ Der rs [s] x ∧ Der rs r y := by
  cases h with
  | term h0 h1 h2 => exact ⟨[_], _, rfl, .term h0 h1 .nil, h2⟩
  | non h0 h1 h2 h3 => exact ⟨_, _, rfl, by have := Der.non h0 h1 h2 .nil; rwa [List.append_nil] at this, h3⟩
theorem Der.split {a b : List Int} : ∀ {z : List UInt8}, Der rs (a ++ b) z → ∃ x y, z = x ++ y ∧ Der rs a x ∧ Der rs b y := by
  induction a with
  | nil => intro z h; exact ⟨[], z, rfl, .nil, h⟩
  | cons s a ih =>
    intro z h
    obtain ⟨x, y, rfl, h1, h2⟩ := Der.cons_inv h
    obtain ⟨x2, y2, rfl, h3, h4⟩ := ih h2
    exact ⟨x ++ x2, y2, by rw [List.append_assoc], h1.app h3, h4⟩
theorem Der.nil_inv {z : List UInt8} (h : Der rs [] z) : z = [] := by cases h; rfl

/-- A part of a word. -/
abbrev seg (wl : List UInt8) (p q : Nat) : List UInt8 := (wl.take q).drop p
theorem seg_app (wl : List UInt8) (p q r : Nat) (h : p ≤ q) (h2 : q ≤ r) : seg wl p q ++ seg wl q r = seg wl p r := by
  unfold seg
  rw [show wl.take q = (wl.take r).take q by rw [List.take_take, Nat.min_eq_left h2]]
  generalize wl.take r = L
  by_cases hp : p ≤ (L.take q).length
  · rw [← List.drop_append_of_le_length hp, List.take_append_drop]
  · simp only [List.length_take] at hp
    rw [List.drop_eq_nil_of_le (by simp; omega), List.drop_eq_nil_of_le (by omega), List.drop_eq_nil_of_le (by omega)]; rfl
theorem seg_full (wl : List UInt8) (p : Nat) : seg wl p wl.length = wl.drop p := by unfold seg; rw [List.take_length]
theorem seg_self (wl : List UInt8) (p : Nat) : seg wl p p = [] := by
  unfold seg; apply List.drop_eq_nil_of_le; simp; omega

/-- What a table says is derived. -/
def Snd (rs : List Rule) (wl : List UInt8) (n : Nat) (E : Nat → Nat → Nat → Bool) (F : Nat → Nat → Bool) : Prop :=
  (∀ s, s < n → ∀ p q, p ≤ wl.length → q ≤ wl.length → E s p q = true → p ≤ q ∧ Der rs [(s : Int)] (seg wl p q)) ∧ (∀ s, s < n → ∀ p, p ≤ wl.length → F s p = true → ∃ y, Der rs [(s : Int)] (wl.drop p ++ y))
/-- What is derived by a rule, by what the table says, it says. -/
def Cls (rs : List Rule) (wl : List UInt8) (E : Nat → Nat → Nat → Bool) (F : Nat → Nat → Bool) : Prop :=
  (∀ r ∈ rs, ∀ p q, p ≤ wl.length → q ≤ wl.length → Path wl E r.right p q → E r.left.toNat p q = true) ∧ (∀ r ∈ rs, ∀ p, p ≤ wl.length → BegP wl E F r.right p → F r.left.toNat p = true)
/-- Each symbol of a string derives something. -/
def Prd (rs : List Rule) (n : Nat) (syms : List Int) : Prop := ∀ s ∈ syms, -256 ≤ s ∧ s < n ∧ (0 ≤ s → ∃ y, Der rs [s] y)
theorem Prd.der {n : Nat} {syms : List Int} (h : Prd rs n syms) : ∃ y, Der rs syms y := by
  induction syms with
  | nil => exact ⟨[], .nil⟩
  | cons s r ih =>
    obtain ⟨y, hy⟩ := ih fun t ht => h t (.tail _ ht)
    obtain ⟨h1, h2, h3⟩ := h s (.head _)
    by_cases h0 : s < 0
    · refine ⟨UInt8.ofNat (-1 - s).toNat :: y, .term h0 ?_ hy⟩
      rw [UInt8.toNat_ofNat']; omega
    · obtain ⟨x, hx⟩ := h3 (by omega)
      exact ⟨x ++ y, hx.app hy⟩

theorem arc_der {wl : List UInt8} {n : Nat} {E : Nat → Nat → Nat → Bool} {F : Nat → Nat → Bool} (hS : Snd rs wl n E F) {s : Int} (hs : s < n) {p q : Nat} (hp : p ≤ wl.length) (hq : q ≤ wl.length) (h : Arc wl E s p q) : p ≤ q ∧ Der rs [s] (seg wl p q) := by
  unfold Arc at h
  split at h
  · next h0 =>
    obtain ⟨rfl, h1, h2⟩ := h
    refine ⟨by omega, ?_⟩
    have : seg wl p (p + 1) = [wl[p]] := by
      unfold seg
      rw [List.take_succ_eq_append_getElem h1, List.drop_append_of_le_length (by simp; omega), List.drop_eq_nil_of_le (by simp; omega)]
      rfl
    rw [this]
    exact .term h0 h2 .nil
  · next h0 =>
    have := hS.1 s.toNat (by omega) p q hp hq h
    rwa [Int.toNat_of_nonneg (by omega)] at this
theorem path_der {wl : List UInt8} {n : Nat} {E : Nat → Nat → Nat → Bool} {F : Nat → Nat → Bool} (hS : Snd rs wl n E F) : ∀ (syms : List Int) (p q : Nat), (∀ s ∈ syms, s < (n : Int)) → p ≤ wl.length → q ≤ wl.length → Path wl E syms p q → p ≤ q ∧ Der rs syms (seg wl p q) := by
  intro syms
  induction syms with
  | nil =>
    rintro p q - hp hq rfl
    exact ⟨Nat.le_refl _, by rw [seg_self]; exact .nil⟩
  | cons s r ih =>
    rintro p q hs hp hq ⟨p', h1, h2, h3, h4⟩
    obtain ⟨a1, a2⟩ := arc_der hS (hs s (.head _)) hp h2 h3
    obtain ⟨b1, b2⟩ := ih p' q (fun t ht => hs t (.tail _ ht)) h2 hq h4
    refine ⟨by omega, ?_⟩
    rw [← seg_app wl p p' q a1 b1]
    exact Der.app (a := [s]) a2 b2
theorem path_le {wl : List UInt8} {E : Nat → Nat → Nat → Bool} : ∀ (syms : List Int) (p q : Nat), Path wl E syms p q → p ≤ q := by
  intro syms
  induction syms with
  | nil => rintro p q rfl; exact Nat.le_refl _
  | cons s r ih =>
    rintro p q ⟨p', h1, h2, h3, h4⟩
    have := ih p' q h4
    omega
theorem path_bound {wl : List UInt8} {E : Nat → Nat → Nat → Bool} : ∀ (syms : List Int) (p q : Nat), p ≤ wl.length → Path wl E syms p q → q ≤ wl.length := by
  intro syms
  induction syms with
  | nil => rintro p q hp rfl; exact hp
  | cons s r ih =>
    rintro p q hp ⟨p', h1, h2, h3, h4⟩
    exact ih p' q h2 h4
theorem beg_der {wl : List UInt8} {n : Nat} {E : Nat → Nat → Nat → Bool} {F : Nat → Nat → Bool} (hS : Snd rs wl n E F) (syms : List Int) (p : Nat) (hP : Prd rs n syms) (hp : p ≤ wl.length) (h : BegP wl E F syms p) : ∃ y, Der rs syms (wl.drop p ++ y) := by
  have hs : ∀ s ∈ syms, s < (n : Int) := fun s hs => (hP s hs).2.1
  rcases h with ⟨i, hi, h⟩ | ⟨i, hi, q, hq, h0, h1, h2⟩
  · obtain ⟨a1, a2⟩ := path_der hS (syms.take i) p wl.length (fun s hx => hs s (List.mem_of_mem_take hx)) hp (Nat.le_refl _) h
    obtain ⟨y, hy⟩ := Prd.der (rs := rs) (n := n) (syms := syms.drop i) fun s hx => hP s (List.mem_of_mem_drop hx)
    refine ⟨y, ?_⟩
    rw [seg_full] at a2
    have := a2.app hy
    rwa [List.take_append_drop] at this
  · obtain ⟨a1, a2⟩ := path_der hS (syms.take i) p q (fun s hx => hs s (List.mem_of_mem_take hx)) hp hq h1
    have hm := List.getElem_mem hi
    obtain ⟨y1, hy1⟩ := hS.2 syms[i].toNat (by have := hs _ hm; omega) q hq h2
    rw [Int.toNat_of_nonneg h0] at hy1
    obtain ⟨y, hy⟩ := Prd.der (rs := rs) (n := n) (syms := syms.drop (i + 1)) fun s hx => hP s (List.mem_of_mem_drop hx)
    refine ⟨y1 ++ y, ?_⟩
    have := a2.app (Der.app (a := [syms[i]]) hy1 hy)
    rw [List.singleton_append, ← List.drop_eq_getElem_cons hi, List.take_append_drop] at this
    rw [← seg_full wl p, ← seg_app wl p q wl.length a1 hq, seg_full]
    simpa using this

theorem drop_pre {x y l : List UInt8} (h : x ++ y <+: l) : y <+: l.drop x.length := by
  obtain ⟨z, rfl⟩ := h
  refine ⟨z, ?_⟩
  rw [List.append_assoc, List.drop_left]
theorem der_path {wl : List UInt8} {E : Nat → Nat → Nat → Bool} {F : Nat → Nat → Bool} (hC : Cls rs wl E F) {syms : List Int} {x : List UInt8} (h : Der rs syms x) : ∀ p, p ≤ wl.length → x <+: wl.drop p → Path wl E syms p (p + x.length) := by
  induction h with
  | nil => intro p _ _; exact rfl
  | @term s c r x h0 h1 h2 ih =>
    intro p hp hx
    have hl := hx.length_le
    rw [List.length_drop, List.length_cons] at hl
    have hlt : p < wl.length := by omega
    rw [List.drop_eq_getElem_cons hlt, List.cons_prefix_cons] at hx
    obtain ⟨rfl, hx2⟩ := hx
    refine ⟨p + 1, by omega, by omega, ?_, ?_⟩
    · unfold Arc; rw [if_pos h0]; exact ⟨rfl, hlt, h1⟩
    · have := ih (p + 1) (by omega) hx2
      rw [List.length_cons, show p + (x.length + 1) = p + 1 + x.length by omega]
      exact this
  | @non u r x y h0 h1 h2 h3 ih1 ih2 =>
    intro p hp hx
    have hl := hx.length_le
    rw [List.length_drop, List.length_append] at hl
    have hx1 : x <+: wl.drop p := (List.prefix_append x y).trans hx
    have hx2 := drop_pre hx
    rw [List.drop_drop] at hx2
    refine ⟨p + x.length, by omega, by omega, ?_, ?_⟩
    · unfold Arc; rw [if_neg (by omega)]
      exact hC.1 u h0 p (p + x.length) hp (by omega) (ih1 p hp hx1)
    · have := ih2 (p + x.length) (by omega) hx2
      rw [List.length_append, ← Nat.add_assoc]
      exact this
theorem beg_cons {wl : List UInt8} {E : Nat → Nat → Nat → Bool} {F : Nat → Nat → Bool} {s : Int} {r : List Int} {p p' : Nat} (h1 : p ≤ p') (h2 : p' ≤ wl.length) (h3 : Arc wl E s p p') (h : BegP wl E F r p') : BegP wl E F (s :: r) p := by
  rcases h with ⟨i, hi, h⟩ | ⟨i, hi, q, hq, h0, h4, h5⟩
  · exact .inl ⟨i + 1, by simpa using hi, p', h1, h2, h3, h⟩
  · exact .inr ⟨i + 1, by simpa using hi, q, hq, by simpa using h0, ⟨p', h1, h2, h3, h4⟩, by simpa using h5⟩
theorem der_beg {wl : List UInt8} {E : Nat → Nat → Nat → Bool} {F : Nat → Nat → Bool} (hC : Cls rs wl E F) {syms : List Int} {x : List UInt8} (h : Der rs syms x) : ∀ p, p ≤ wl.length → wl.drop p <+: x → BegP wl E F syms p := by
  induction h with
  | nil =>
    intro p hp hx
    have : wl.drop p = [] := List.prefix_nil.1 hx
    have hl : (wl.drop p).length = 0 := by rw [this]; rfl
    rw [List.length_drop] at hl
    exact .inl ⟨0, Nat.le_refl _, show p = wl.length by omega⟩
  | @term s c r x h0 h1 h2 ih =>
    intro p hp hx
    by_cases hlt : p < wl.length
    · rw [List.drop_eq_getElem_cons hlt, List.cons_prefix_cons] at hx
      obtain ⟨rfl, hx2⟩ := hx
      exact beg_cons (p' := p + 1) (by omega) (by omega) (by unfold Arc; rw [if_pos h0]; exact ⟨rfl, hlt, h1⟩) (ih (p + 1) (by omega) hx2)
    · exact .inl ⟨0, Nat.zero_le _, show p = wl.length by omega⟩
  | @non u r x y h0 h1 h2 h3 ih1 ih2 =>
    intro p hp hx
    rcases Nat.le_total (wl.drop p).length x.length with hle | hle
    · have hx1 : wl.drop p <+: x := List.prefix_of_prefix_length_le hx (List.prefix_append x y) hle
      have := hC.2 u h0 p hp (ih1 p hp hx1)
      exact .inr ⟨0, by simp, p, hp, by simpa using h1, rfl, by simpa using this⟩
    · have hx1 : x <+: wl.drop p := List.prefix_of_prefix_length_le (List.prefix_append x y) hx hle
      rw [List.length_drop] at hle
      have hx2 : wl.drop (p + x.length) <+: y := by
        obtain ⟨z, hz⟩ := hx1
        rw [← hz] at hx
        have h4 : z <+: y := (List.prefix_append_right_inj x).1 hx
        rw [← List.drop_drop, ← hz, List.drop_left]
        exact h4
      refine beg_cons (p' := p + x.length) (by omega) (by omega) ?_ (ih2 (p + x.length) (by omega) hx2)
      unfold Arc; rw [if_neg (by omega)]
      exact hC.1 u h0 p (p + x.length) hp (by omega) (der_path hC h2 p hp hx1)
end
end Go.Proofs.Ythpjjlmgdalpaaa
