/- first.Sets. -/
import Derived.Test.YthpjjlmgdalpaaaD3
namespace Go.Proofs.Ythpjjlmgdalpaaa
open Go.RowKit

abbrev LS := List (List (List UInt8))
/-- One round over all rules; none: a set has too many words. -/
def roundF (k : Nat) : List Rule → LS × Bool → Option (LS × Bool)
  | [], s => some s
  | r :: rs, s => match step1 k s r with
    | none => none
    | some s' => roundF k rs s'
/-- What the rounds come to, from some sets on. -/
inductive SetsRes (k : Nat) (rs : List Rule) : LS → Option LS → Prop
  | limit {L : LS} : roundF k rs (L, false) = none → SetsRes k rs L none
  | stop {L L' : LS} : roundF k rs (L, false) = some (L', false) → SetsRes k rs L (some L')
  | again {L L' : LS} {r : Option LS} : roundF k rs (L, false) = some (L', true) → SetsRes k rs L' r → SetsRes k rs L r

/-- How many words all sets have. -/
def total (L : LS) : Nat := (L.map List.length).sum
theorem sum_set (l : List Nat) : ∀ (i : Nat) (x : Nat) (h : i < l.length), (l.set i x).sum + l[i] = l.sum + x := by
  induction l with
  | nil => intro i x h; simp at h
  | cons a l ih =>
    intro i x h
    cases i with
    | zero => simp; omega
    | succ i =>
      have := ih i x (by simpa using h)
      simp only [List.set_cons_succ, List.sum_cons, List.getElem_cons_succ]
      omega
theorem total_set (L : LS) (i : Nat) (x : List (List UInt8)) (h : i < L.length) : total (L.set i x) + L[i].length = total L + x.length := by
  unfold total
  have := sum_set (L.map List.length) i x.length (by simpa using h)
  rw [List.map_set]
  simpa using this
def AllAsc (L : LS) : Prop := ∀ l ∈ L, Asc l
theorem asc_nodup {l : List (List UInt8)} (h : Asc l) : l.Nodup := h.imp fun hab e => by subst e; exact List.lt_irrefl _ hab
theorem len_sub {a b : List (List UInt8)} (ha : a.Nodup) (h : ∀ x ∈ a, x ∈ b) : a.length ≤ b.length := by
  induction a generalizing b with
  | nil => simp
  | cons x a ih =>
    rw [List.nodup_cons] at ha
    have hx : x ∈ b := h x (.head _)
    have := ih (b := b.erase x) ha.2 fun y hy => (List.mem_erase_of_ne (fun (e : y = x) => ha.1 (by rw [← e]; exact hy))).2 (h y (.tail _ hy))
    rw [List.length_erase_of_mem hx] at this
    have := List.length_pos_of_mem hx
    simp only [List.length_cons]
    omega
theorem srt_grow (a b : List (List UInt8)) (ha : Asc a) : a.length ≤ (srt (a ++ b)).length := len_sub (asc_nodup ha) fun x hx => (srt_mem _ _).2 (List.mem_append.2 (.inl hx))
/-- What a step keeps, and what it makes of the number of words. -/
theorem step1_total {k : Nat} {L L' : LS} {gr gr' : Bool} {r : Rule} (h : step1 k (L, gr) r = some (L', gr')) (hr : r.left.toNat < L.length) (hA : AllAsc L) :
    AllAsc L' ∧ L'.length = L.length ∧ total L ≤ total L' ∧ (gr' = true → gr = true ∨ total L < total L') ∧ (∀ i (h : i < L'.length), L'[i].length ≤ 4096 ∨ ∃ h' : i < L.length, L'[i] = L[i]) := by
  unfold step1 at h
  split at h
  · cases h
  · next x hx =>
    split at h
    · next hle =>
      injection h with h
      injection h with h1 h2
      subst h1
      dsimp only at *
      have e : L.getD r.left.toNat [] = L[r.left.toNat] := by simp [List.getD, hr]
      rw [e] at hle h2 ⊢
      have ht := total_set L r.left.toNat (srt (L[r.left.toNat] ++ x)) hr
      have hg := srt_grow L[r.left.toNat] x (hA _ (List.getElem_mem hr))
      refine ⟨?_, by simp, by omega, ?_, ?_⟩
      · intro l hl
        rcases List.mem_or_eq_of_mem_set hl with h | rfl
        · exact hA l h
        · exact srt_asc _
      · intro hgr
        rw [← h2] at hgr
        rcases Bool.or_eq_true_iff.1 hgr with h | h
        · exact .inl h
        · right
          have := of_decide_eq_true h
          omega
      · intro i hi
        by_cases ei : r.left.toNat = i
        · subst ei; left; simpa using hle
        · right
          exact ⟨by simpa using hi, by rw [List.getElem_set_ne ei]⟩
    · cases h
end Go.Proofs.Ythpjjlmgdalpaaa
