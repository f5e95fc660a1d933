/- Words over a few terminals: all of them, and why no set has too many. -/
import Derived.Test.YthpjjlmgdalpaaaP2
namespace Go.Proofs.Ythpjjlmgdalpaaa
open Go.RowKit

def Fit (t k : Nat) (l : List (List UInt8)) : Prop := ∀ w ∈ l, w.length ≤ k ∧ ∀ c ∈ w, c.toNat < t
/-- All words of n letters; all words of at most k. -/
def lev (t : Nat) : Nat → List (List UInt8)
  | 0 => [[]]
  | n + 1 => (lev t n).flatMap fun w => (List.range t).map fun c => w ++ [UInt8.ofNat c]
def allW (t : Nat) : Nat → List (List UInt8)
  | 0 => [[]]
  | k + 1 => allW t k ++ lev t (k + 1)
theorem mem_lev {t : Nat} (ht : t ≤ 256) : ∀ (n : Nat) (w : List UInt8), w ∈ lev t n ↔ w.length = n ∧ ∀ c ∈ w, c.toNat < t := by
  intro n
  induction n with
  | zero =>
    intro w
    simp only [lev, List.mem_singleton]
    constructor
    · rintro rfl; simp
    · rintro ⟨h, _⟩; exact List.eq_nil_of_length_eq_zero h
  | succ n ih =>
    intro w
    simp only [lev, List.mem_flatMap, List.mem_map, List.mem_range]
    constructor
    · rintro ⟨v, hv, c, hc, rfl⟩
      obtain ⟨h1, h2⟩ := (ih v).1 hv
      refine ⟨by simp [h1], fun d hd => ?_⟩
      rcases List.mem_append.1 hd with h | h
      · exact h2 d h
      · rw [List.mem_singleton.1 h, UInt8.toNat_ofNat']; omega
    · rintro ⟨h1, h2⟩
      have hne : w ≠ [] := by intro e; subst e; simp at h1
      refine ⟨w.dropLast, (ih _).2 ⟨by simp [h1], fun c hc => h2 c (List.dropLast_subset _ hc)⟩, (w.getLast hne).toNat, h2 _ (List.getLast_mem hne), ?_⟩
      have : UInt8.ofNat (w.getLast hne).toNat = w.getLast hne := by
        apply UInt8.toNat_inj.1
        rw [UInt8.toNat_ofNat']
        have := (w.getLast hne).toNat_lt
        omega
      rw [this, List.dropLast_concat_getLast]
theorem mem_allW {t : Nat} (ht : t ≤ 256) : ∀ (k : Nat) (w : List UInt8), w ∈ allW t k ↔ w.length ≤ k ∧ ∀ c ∈ w, c.toNat < t := by
  intro k
  induction k with
  | zero =>
    intro w
    simp only [allW, List.mem_singleton]
    constructor
    · rintro rfl; simp
    · rintro ⟨h, _⟩; exact List.eq_nil_of_length_eq_zero (by omega)
  | succ k ih =>
    intro w
    simp only [allW, List.mem_append]
    rw [ih, mem_lev ht]
    constructor
    · rintro (⟨a, b⟩ | ⟨a, b⟩)
      · exact ⟨by omega, b⟩
      · exact ⟨by omega, b⟩
    · rintro ⟨a, b⟩
      rcases Nat.lt_or_ge k w.length with h | h
      · exact .inr ⟨by omega, b⟩
      · exact .inl ⟨h, b⟩
theorem allW_small : ∀ t, t < 4 → ∀ k, k < 5 → (allW t k).Nodup ∧ (allW t k).length ≤ 121 := by decide +kernel
theorem fit_all {t k : Nat} {l : List (List UInt8)} (ht : t ≤ 256) (h : Fit t k l) : ∀ x ∈ l, x ∈ allW t k := fun x hx => (mem_allW ht k x).2 (h x hx)
theorem fit_len {t k : Nat} {l : List (List UInt8)} (ht : t ≤ 3) (hk : k ≤ 4) (hn : l.Nodup) (h : Fit t k l) : l.length ≤ 121 :=
  Nat.le_trans (len_sub hn (fit_all (by omega) h)) (allW_small t (by omega) k (by omega)).2
theorem nodup_fold (l : List (List UInt8)) : ∀ o : List (List UInt8), o.Nodup → (l.foldl putW o).Nodup := by
  induction l with
  | nil => intro o h; exact h
  | cons x l ih =>
    intro o h
    rw [List.foldl_cons]
    apply ih
    unfold putW
    split
    · exact h
    · next hx =>
      rw [List.nodup_append]
      exact ⟨h, by simp, fun a ha b hb e => by rw [List.mem_singleton] at hb; subst hb; subst e; exact hx ha⟩
theorem prod_nodup (k : Nat) (a b : List (List UInt8)) : (prodL k a b).Nodup := nodup_fold _ _ List.nodup_nil
theorem prod_fit {t k : Nat} {a b : List (List UInt8)} (ha : Fit t k a) (hb : Fit t k b) : Fit t k (prodL k a b) := by
  intro w hw
  rw [mem_prodL] at hw
  obtain ⟨x, hx, y, hy, rfl⟩ := hw
  refine ⟨by rw [List.length_take]; omega, fun c hc => ?_⟩
  rcases List.mem_append.1 (List.mem_of_mem_take hc) with h | h
  · exact (ha x hx).2 c h
  · exact (hb y (restL_sub hy)).2 c h
theorem srt_fit {t k : Nat} {a : List (List UInt8)} (ha : Fit t k a) : Fit t k (srt a) := fun w hw => ha w ((srt_mem _ _).1 hw)
section
variable {rs : List Rule} {k t : Nat}
def FitAll (t k : Nat) (L : LS) : Prop := ∀ l ∈ L, Fit t k l
theorem sym_fit {L : LS} (hL : FitAll t k L) (hk : 1 ≤ k) (ht : t ≤ 256) {s : Int} (h1 : -(t : Int) ≤ s) (h2 : s < L.length) : ∃ x, symW L s = some x ∧ Fit t k x := by
  unfold symW
  by_cases h0 : s < 0
  · rw [if_pos h0, if_pos (by omega)]
    refine ⟨_, rfl, fun w hw => ?_⟩
    rw [List.mem_singleton.1 hw]
    refine ⟨by simpa using hk, fun c hc => ?_⟩
    rw [List.mem_singleton.1 hc, UInt8.toNat_ofNat']
    omega
  · rw [if_neg h0]
    have : s.toNat < L.length := by omega
    exact ⟨_, List.getElem?_eq_getElem this, hL _ (List.getElem_mem this)⟩
theorem ofF_some {L : LS} (hL : FitAll t k L) (hk : 1 ≤ k) (hk4 : k ≤ 4) (ht : t ≤ 3) : ∀ (syms : List Int) (out : List (List UInt8)), (∀ s ∈ syms, -(t : Int) ≤ s ∧ s < L.length) → Fit t k out → ∃ res, ofF k L syms out = some res ∧ Fit t k res := by
  intro syms
  induction syms with
  | nil => intro out _ ho; exact ⟨out, rfl, ho⟩
  | cons s r ih =>
    intro out hs ho
    obtain ⟨x, hx, hf⟩ := sym_fit hL hk (by omega) (hs s (.head _)).1 (hs s (.head _)).2
    have hp := prod_fit ho hf
    unfold ofF
    rw [hx]
    dsimp only
    rw [if_pos (by have := fit_len ht hk4 (prod_nodup k out x) hp; omega)]
    exact ih _ (fun s hs' => hs s (.tail _ hs')) (srt_fit hp)
theorem one_fit (t k : Nat) : Fit t k [[]] := fun w hw => by rw [List.mem_singleton.1 hw]; simp
theorem step1_some {L : LS} {gr : Bool} {r : Rule} (hL : FitAll t k L) (hk : 1 ≤ k) (hk4 : k ≤ 4) (ht : t ≤ 3) (hs : ∀ s ∈ r.right, -(t : Int) ≤ s ∧ s < L.length) (hl : r.left.toNat < L.length) : ∃ L' gr', step1 k (L, gr) r = some (L', gr') ∧ FitAll t k L' ∧ L'.length = L.length := by
  obtain ⟨x, hx, hf⟩ := ofF_some hL hk hk4 ht r.right [[]] hs (one_fit t k)
  have e : L.getD r.left.toNat [] = L[r.left.toNat] := by simp [List.getD, hl]
  have hfit : Fit t k (srt (L.getD r.left.toNat [] ++ x)) := by
    apply srt_fit
    intro w hw
    rcases List.mem_append.1 hw with h | h
    · rw [e] at h; exact hL _ (List.getElem_mem hl) w h
    · exact hf w h
  unfold step1
  dsimp only
  rw [hx]
  dsimp only
  rw [if_pos (by have := fit_len ht hk4 (asc_nodup (srt_asc _)) hfit; omega)]
  refine ⟨_, _, rfl, fun l hm => ?_, by simp⟩
  rcases List.mem_or_eq_of_mem_set hm with h | rfl
  · exact hL l h
  · exact hfit
theorem round_some (hk : 1 ≤ k) (hk4 : k ≤ 4) (ht : t ≤ 3) {n : Nat} : ∀ (l : List Rule) (L : LS) (gr : Bool), FitAll t k L → L.length = n → (∀ r ∈ l, 0 ≤ r.left ∧ r.left < n ∧ ∀ s ∈ r.right, -(t : Int) ≤ s ∧ s < n) → ∃ L' gr', roundF k l (L, gr) = some (L', gr') ∧ FitAll t k L' ∧ L'.length = n := by
  intro l
  induction l with
  | nil => intro L gr h1 h2 _; exact ⟨L, gr, rfl, h1, h2⟩
  | cons r l ih =>
    intro L gr h1 h2 h3
    obtain ⟨a, b, c⟩ := h3 r (.head _)
    obtain ⟨L', gr', e1, e2, e3⟩ := step1_some (gr := gr) h1 hk hk4 ht (by rw [h2]; exact c) (by omega)
    obtain ⟨L2, gr2, f1, f2, f3⟩ := ih L' gr' e2 (by omega) fun r hr => h3 r (.tail _ hr)
    exact ⟨L2, gr2, by unfold roundF; rw [e1]; exact f1, f2, f3⟩
theorem sets_some (hk : 1 ≤ k) (hk4 : k ≤ 4) (ht : t ≤ 3) {n : Nat} (hr : ∀ r ∈ rs, 0 ≤ r.left ∧ r.left < n ∧ ∀ s ∈ r.right, -(t : Int) ≤ s ∧ s < n) {L0 : LS} {res : Option LS} (h : SetsRes k rs L0 res) (h1 : FitAll t k L0) (h2 : L0.length = n) : ∃ L, res = some L ∧ FitAll t k L ∧ L.length = n := by
  induction h with
  | limit h =>
    obtain ⟨_, _, e, _⟩ := round_some hk hk4 ht rs _ false h1 h2 hr
    rw [e] at h; cases h
  | stop h =>
    obtain ⟨_, _, e, e2, e3⟩ := round_some hk hk4 ht rs _ false h1 h2 hr
    rw [e] at h; injection h with h; injection h with ha hb; subst ha
    exact ⟨_, rfl, e2, e3⟩
  | again h _ ih =>
    obtain ⟨_, _, e, e2, e3⟩ := round_some hk hk4 ht rs _ false h1 h2 hr
    rw [e] at h; injection h with h; injection h with ha hb; subst ha
    exact ih e2 e3
theorem fit_start (t k n : Nat) : FitAll t k (List.replicate n []) := fun l hl => by rw [(List.mem_replicate.1 hl).2]; intro w hw; cases hw
end

/-! ### counting -/
/-- What is told of the words of a list: how often it is so. -/
theorem count_in {a l : List (List UInt8)} (ha : a.Nodup) (hl : l.Nodup) (h : ∀ x ∈ l, x ∈ a) : (a.filter fun x => decide (x ∈ l)).length = l.length := by
  apply Nat.le_antisymm
  · exact len_sub (ha.filter _) fun x hx => of_decide_eq_true (List.mem_filter.1 hx).2
  · exact len_sub hl fun x hx => List.mem_filter.2 ⟨h x hx, decide_eq_true hx⟩
end Go.Proofs.Ythpjjlmgdalpaaa
