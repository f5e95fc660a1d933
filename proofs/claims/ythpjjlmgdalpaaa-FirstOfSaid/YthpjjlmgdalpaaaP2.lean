/- First sets and derivations: the rounds of first.Sets come to just the beginnings of what is derived. -/
import Derived.Test.YthpjjlmgdalpaaaP1
import Derived.Test.YthpjjlmgdalpaaaD5
namespace Go.Proofs.Ythpjjlmgdalpaaa
open Go.RowKit

theorem take_l (k : Nat) (a b : List UInt8) : (a.take k ++ b).take k = (a ++ b).take k := by
  rw [List.take_append, List.take_append, List.take_take, Nat.min_self]
  rcases Nat.le_total a.length k with h | h
  · rw [List.take_of_length_le h]
  · rw [List.length_take, Nat.min_eq_left h, Nat.sub_self, Nat.sub_eq_zero_of_le h]
theorem take_r (k : Nat) (a b : List UInt8) : (a ++ b.take k).take k = (a ++ b).take k := by
  rw [List.take_append, List.take_append, List.take_take, Nat.min_eq_left (by omega)]

section
variable {rs : List Rule} {k : Nat}
def SndF (rs : List Rule) (k : Nat) (L : LS) : Prop := ∀ s, ∀ w ∈ L.getD s [], ∃ x, Der rs [(s : Int)] x ∧ w = x.take k
def ClsF (rs : List Rule) (k : Nat) (L : LS) : Prop := ∀ r ∈ rs, ∃ x, ofF k L r.right [[]] = some x ∧ ∀ z ∈ x, z ∈ L.getD r.left.toNat []

theorem getD_of {α : Type} {L : List α} {i : Nat} {x d : α} (h : L[i]? = some x) : L.getD i d = x := by simp [List.getD, h]
theorem restL_sub {k : Nat} {b : List (List UInt8)} {x y : List UInt8} (h : y ∈ restL k b x) : y ∈ b := by
  unfold restL at h
  split at h
  · exact List.mem_of_mem_take h
  · exact h
theorem prod_put {a b : List (List UInt8)} {o y : List UInt8} (ho : o ∈ a) (hy : y ∈ b) : (o ++ y).take k ∈ prodL k a b := by
  rw [mem_prodL]
  unfold restL
  by_cases h : k ≤ o.length ∧ 0 < b.length
  · refine ⟨o, ho, b[0]'h.2, ?_, ?_⟩
    · rw [if_pos h]
      obtain ⟨z, l, rfl⟩ : ∃ z l, b = z :: l := by
        cases b with
        | nil => simp at h
        | cons z l => exact ⟨z, l, rfl⟩
      simp
    · rw [List.take_append_of_le_length h.1, List.take_append_of_le_length h.1]
  · exact ⟨o, ho, y, by rw [if_neg h]; exact hy, rfl⟩

theorem sym_snd {L : LS} (hS : SndF rs k L) (hk : 1 ≤ k) {s : Int} {x : List (List UInt8)} (h : symW L s = some x) {y : List UInt8} (hy : y ∈ x) : ∃ z, Der rs [s] z ∧ y = z.take k := by
  unfold symW at h
  split at h
  · next h0 =>
    split at h
    · next h1 =>
      injection h with h
      subst h
      obtain rfl := List.mem_singleton.1 hy
      refine ⟨[UInt8.ofNat (-1 - s).toNat], .term h0 ?_ .nil, (List.take_of_length_le (by simp; omega)).symm⟩
      rw [UInt8.toNat_ofNat']; omega
    · cases h
  · next h0 =>
    have := hS s.toNat y (by rw [getD_of h]; exact hy)
    rwa [Int.toNat_of_nonneg (by omega)] at this
theorem ofF_snd {L : LS} (hS : SndF rs k L) (hk : 1 ≤ k) : ∀ (syms : List Int) (out res : List (List UInt8)), (∀ o ∈ out, o.length ≤ k) → ofF k L syms out = some res → ∀ z ∈ res, ∃ o ∈ out, ∃ x, Der rs syms x ∧ z = (o ++ x).take k := by
  intro syms
  induction syms with
  | nil =>
    intro out res ho h z hz
    injection h with h
    subst h
    exact ⟨z, hz, [], .nil, by rw [List.append_nil, List.take_of_length_le (ho z hz)]⟩
  | cons s r ih =>
    intro out res ho h z hz
    unfold ofF at h
    split at h
    · cases h
    · next x hx =>
      split at h
      · obtain ⟨o', ho', x2, hx2, rfl⟩ := ih _ _ (fun o hm => by
          rw [srt_mem, mem_prodL] at hm
          obtain ⟨_, _, _, _, rfl⟩ := hm
          rw [List.length_take]; omega) h z hz
        rw [srt_mem, mem_prodL] at ho'
        obtain ⟨o, hom, y, hy, rfl⟩ := ho'
        obtain ⟨x1, hx1, rfl⟩ := sym_snd hS hk hx (restL_sub hy)
        refine ⟨o, hom, x1 ++ x2, Der.app (a := [s]) hx1 hx2, ?_⟩
        rw [take_r, take_l, List.append_assoc]
      · cases h
theorem ofF_cls {L : LS} (hC : ClsF rs k L) {syms : List Int} {x : List UInt8} (h : Der rs syms x) : ∀ (out res : List (List UInt8)), ofF k L syms out = some res → ∀ o ∈ out, o.length ≤ k → (o ++ x).take k ∈ res := by
  induction h with
  | nil =>
    intro out res h o ho hl
    injection h with h
    subst h
    rwa [List.append_nil, List.take_of_length_le hl]
  | @term s c r x h0 h1 h2 ih =>
    intro out res h o ho hl
    unfold ofF at h
    have hw : symW L s = some [[c]] := by
      unfold symW
      have hc : UInt8.ofNat (-1 - s).toNat = c := by
        apply UInt8.toNat_inj.1
        rw [UInt8.toNat_ofNat']
        have := c.toNat_lt
        omega
      rw [if_pos h0, if_pos (by have := c.toNat_lt; omega), hc]
    rw [hw] at h
    dsimp only at h
    split at h
    · have := ih _ _ h ((o ++ [c]).take k) (by rw [srt_mem]; exact prod_put ho (.head _)) (by rw [List.length_take]; omega)
      rw [take_l, List.append_assoc] at this
      exact this
    · cases h
  | @non u r x y h0 h1 h2 h3 ih1 ih2 =>
    intro out res h o ho hl
    unfold ofF at h
    split at h
    · cases h
    · next xs hxs =>
      split at h
      · obtain ⟨x', hx', hsub⟩ := hC u h0
        have hm := hsub _ (ih1 _ _ hx' [] (.head _) (by simp))
        unfold symW at hxs
        rw [if_neg (by omega)] at hxs
        rw [getD_of hxs, List.nil_append] at hm
        have := ih2 _ _ h ((o ++ x.take k).take k) (by rw [srt_mem]; exact prod_put ho hm) (by rw [List.length_take]; omega)
        rw [take_r, take_l, List.append_assoc] at this
        exact this
      · cases h

theorem asc_ext : ∀ {a b : List (List UInt8)}, Asc a → Asc b → (∀ x, x ∈ a ↔ x ∈ b) → a = b := by
  intro a
  induction a with
  | nil =>
    intro b _ _ h
    cases b with
    | nil => rfl
    | cons y b => exact absurd ((h y).2 (.head _)) (by simp)
  | cons x a ih =>
    intro b ha hb h
    cases b with
    | nil => exact absurd ((h x).1 (.head _)) (by simp)
    | cons y b =>
      have ha' := List.pairwise_cons.1 ha
      have hb' := List.pairwise_cons.1 hb
      have hxy : x = y := by
        rcases List.mem_cons.1 ((h x).1 (.head _)) with e | e
        · exact e
        · rcases List.mem_cons.1 ((h y).2 (.head _)) with e2 | e2
          · exact e2.symm
          · exact absurd (hb'.1 x e) (fun h1 => List.lt_irrefl x (List.lt_trans (ha'.1 y e2) h1))
      subst hxy
      rw [ih ha'.2 hb'.2 fun z => ?_]
      constructor
      · intro hz
        rcases List.mem_cons.1 ((h z).1 (.tail _ hz)) with e | e
        · subst e; exact absurd (ha'.1 _ hz) (List.lt_irrefl _)
        · exact e
      · intro hz
        rcases List.mem_cons.1 ((h z).2 (.tail _ hz)) with e | e
        · subst e; exact absurd (hb'.1 _ hz) (List.lt_irrefl _)
        · exact e
theorem srt_same {a x : List (List UInt8)} (ha : Asc a) (h : (srt (a ++ x)).length ≤ a.length) : srt (a ++ x) = a ∧ ∀ z ∈ x, z ∈ a := by
  have hsub : ∀ z ∈ srt (a ++ x), z ∈ a := by
    intro z hz
    apply Classical.byContradiction
    intro hn
    have := len_sub (a := z :: a) (b := srt (a ++ x)) (List.nodup_cons.2 ⟨hn, asc_nodup ha⟩) (fun y hy => by
      rcases List.mem_cons.1 hy with rfl | hy
      · exact hz
      · rw [srt_mem, List.mem_append]; exact .inl hy)
    rw [List.length_cons] at this
    omega
  exact ⟨asc_ext (srt_asc _) ha fun z => ⟨hsub z, fun hz => by rw [srt_mem, List.mem_append]; exact .inl hz⟩, fun z hz => hsub z (by rw [srt_mem, List.mem_append]; exact .inr hz)⟩

theorem round_grown : ∀ (l : List Rule) (L L' : LS) (gr : Bool), roundF k l (L, gr) = some (L', false) → gr = false := by
  intro l
  induction l with
  | nil => intro L L' gr h; injection h with h; injection h with h1 h2
  | cons r l ih =>
    intro L L' gr h
    unfold roundF at h
    split at h
    · cases h
    · next s hs =>
      obtain ⟨L2, gr2⟩ := s
      have := ih _ _ _ h
      subst this
      unfold step1 at hs
      split at hs
      · cases hs
      · split at hs
        · injection hs with hs
          injection hs with h1 h2
          exact (Bool.or_eq_false_iff.1 h2).1
        · cases hs
theorem round_stop {L : LS} (hA : AllAsc L) : ∀ (l : List Rule) (L' : LS), (∀ r ∈ l, r.left.toNat < L.length) → roundF k l (L, false) = some (L', false) → L' = L ∧ ∀ r ∈ l, ∃ x, ofF k L r.right [[]] = some x ∧ ∀ z ∈ x, z ∈ L.getD r.left.toNat [] := by
  intro l
  induction l with
  | nil => intro L' _ h; injection h with h; injection h with h1 h2; exact ⟨h1.symm, fun r hr => by cases hr⟩
  | cons r l ih =>
    intro L' hl h
    unfold roundF at h
    split at h
    · cases h
    · next s hs =>
      obtain ⟨L2, gr2⟩ := s
      obtain rfl := round_grown _ _ _ _ h
      unfold step1 at hs
      split at hs
      · cases hs
      · next x hx =>
        split at hs
        · injection hs with hs
          injection hs with h1 h2
          have hlt := hl r (.head _)
          have e : L.getD r.left.toNat [] = L[r.left.toNat] := by simp [List.getD, hlt]
          have hlen := of_decide_eq_false (Bool.or_eq_false_iff.1 h2).2
          dsimp only at h1 hlen
          rw [e] at h1 hlen
          obtain ⟨a1, a2⟩ := srt_same (x := x) (hA _ (List.getElem_mem hlt)) (by omega)
          rw [a1, List.set_getElem_self] at h1
          subst h1
          obtain ⟨b1, b2⟩ := ih L' (fun r hr => hl r (.tail _ hr)) h
          refine ⟨b1, fun r' hr' => ?_⟩
          rcases List.mem_cons.1 hr' with rfl | hr'
          · exact ⟨x, hx, fun z hz => by rw [e]; exact a2 z hz⟩
          · exact b2 r' hr'
        · cases hs

theorem step1_snd {L L' : LS} {gr gr' : Bool} {r : Rule} (h : step1 k (L, gr) r = some (L', gr')) (hk : 1 ≤ k) (hr : r ∈ rs) (h0 : 0 ≤ r.left) (hS : SndF rs k L) : SndF rs k L' := by
  unfold step1 at h
  split at h
  · cases h
  · next x hx =>
    split at h
    · injection h with h
      injection h with h1 h2
      subst h1
      intro s w hw
      by_cases e : r.left.toNat = s ∧ s < L.length
      · obtain ⟨rfl, hlt⟩ := e
        rw [getD_of (x := srt (L.getD r.left.toNat [] ++ x)) (by rw [List.getElem?_set_self hlt]), srt_mem, List.mem_append] at hw
        rcases hw with hw | hw
        · exact hS _ w hw
        · obtain ⟨o, ho, y, hy, rfl⟩ := ofF_snd hS hk _ _ _ (fun o ho => by rw [List.mem_singleton.1 ho]; simp) hx w hw
          obtain rfl := List.mem_singleton.1 ho
          refine ⟨y, ?_, rfl⟩
          have := Der.non hr h0 hy .nil
          rwa [List.append_nil, ← Int.toNat_of_nonneg h0] at this
      · apply hS s w
        have : (L.set r.left.toNat (srt (L.getD r.left.toNat [] ++ x))).getD s [] = L.getD s [] := by
          simp only [List.getD]
          congr 1
          by_cases e1 : r.left.toNat = s
          · rw [List.getElem?_set]
            have : ¬ s < L.length := fun h => e ⟨e1, h⟩
            simp [e1, this]
          · rw [List.getElem?_set_ne e1]
        rwa [← this]
    · cases h
theorem round_snd (hk : 1 ≤ k) : ∀ (l : List Rule) (s : LS × Bool) (L' : LS) (gr' : Bool), (∀ r ∈ l, r ∈ rs ∧ 0 ≤ r.left) → SndF rs k s.1 → roundF k l s = some (L', gr') → SndF rs k L' := by
  intro l
  induction l with
  | nil => intro s L' gr' _ hS h; injection h with h; rw [h] at hS; exact hS
  | cons r l ih =>
    intro s L' gr' hl hS h
    unfold roundF at h
    split at h
    · cases h
    · next s' hs =>
      obtain ⟨L1, g1⟩ := s
      obtain ⟨L2, g2⟩ := s'
      exact ih _ _ _ (fun r hr => hl r (.tail _ hr)) (step1_snd hs hk (hl r (.head _)).1 (hl r (.head _)).2 hS) h
theorem round_inv {n : Nat} : ∀ (l : List Rule) (s : LS × Bool) (L' : LS) (gr' : Bool), (∀ r ∈ l, 0 ≤ r.left ∧ r.left < n) → LInv n s.1 → roundF k l s = some (L', gr') → LInv n L' := by
  intro l
  induction l with
  | nil => intro s L' gr' _ hS h; injection h with h; rw [h] at hS; exact hS
  | cons r l ih =>
    intro s L' gr' hl hS h
    unfold roundF at h
    split at h
    · cases h
    · next s' hs =>
      obtain ⟨L1, g1⟩ := s
      obtain ⟨L2, g2⟩ := s'
      exact ih _ _ _ (fun r hr => hl r (.tail _ hr)) (step1_inv hs (hl r (.head _)).1 (hl r (.head _)).2 hS).1 h
/-- What first.Sets comes to is just what is derived. -/
theorem sets_law {n : Nat} (hk : 1 ≤ k) (hr : ∀ r ∈ rs, 0 ≤ r.left ∧ r.left < n) {L0 : LS} {res : Option LS} (h : SetsRes k rs L0 res) (hI : LInv n L0) (hS : SndF rs k L0) : ∀ L, res = some L → LInv n L ∧ SndF rs k L ∧ ClsF rs k L := by
  induction h with
  | limit _ => intro L e; cases e
  | stop h =>
    intro L e
    injection e with e
    subst e
    obtain ⟨rfl, b⟩ := round_stop hI.1 _ _ (fun r hm => by have := hr r hm; have := hI.2.1; omega) h
    exact ⟨hI, hS, b⟩
  | again h _ ih => exact ih (round_inv _ _ _ _ hr hI h) (round_snd hk _ _ _ _ (fun r hm => ⟨hm, (hr r hm).1⟩) hS h)
theorem linv_start (n : Nat) : LInv n (List.replicate n []) := by
  refine ⟨fun l hl => ?_, by simp, fun l hl => ?_⟩
  · rw [(List.mem_replicate.1 hl).2]; exact List.Pairwise.nil
  · rw [(List.mem_replicate.1 hl).2]; simp
theorem snd_start (n : Nat) : SndF rs k (List.replicate n []) := by
  intro s w hw
  exfalso
  simp only [List.getD, List.getElem?_replicate] at hw
  split at hw <;> simp at hw
theorem first_set {n : Nat} {L : LS} (hk : 1 ≤ k) (hr : ∀ r ∈ rs, 0 ≤ r.left ∧ r.left < n) (hS : SndF rs k L) (hC : ClsF rs k L) (s : Nat) (w : List UInt8) : w ∈ L.getD s [] ↔ ∃ x, Der rs [(s : Int)] x ∧ w = x.take k := by
  refine ⟨hS s w, ?_⟩
  rintro ⟨x, hx, rfl⟩
  generalize hs : (s : Int) = s' at hx
  cases hx with
  | term h0 _ _ => omega
  | @non u _ x y h0 h1 h2 h3 =>
    obtain rfl := h3.nil_inv
    obtain ⟨x', hx', hsub⟩ := hC u h0
    have := hsub _ (ofF_cls hC h2 _ _ hx' [] (.head _) (by simp))
    rw [← hs, Int.toNat_natCast] at this
    rwa [List.append_nil]
theorem first_of {L : LS} (hk : 1 ≤ k) (hS : SndF rs k L) (hC : ClsF rs k L) {syms : List Int} {res : List (List UInt8)} (h : ofF k L syms [[]] = some res) (w : List UInt8) : w ∈ res ↔ ∃ x, Der rs syms x ∧ w = x.take k := by
  constructor
  · intro hw
    obtain ⟨o, ho, x, hx, rfl⟩ := ofF_snd hS hk _ _ _ (fun o ho => by rw [List.mem_singleton.1 ho]; simp) h w hw
    obtain rfl := List.mem_singleton.1 ho
    exact ⟨x, hx, rfl⟩
  · rintro ⟨x, hx, rfl⟩
    exact ofF_cls hC hx _ _ h [] (.head _) (by simp)
end
end Go.Proofs.Ythpjjlmgdalpaaa
