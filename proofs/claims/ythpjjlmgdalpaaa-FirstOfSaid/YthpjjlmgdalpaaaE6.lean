/- The reference's table: how it is laid. -/
import Derived.Test.YthpjjlmgdalpaaaE5
namespace Go.Proofs.Ythpjjlmgdalpaaa
open Go.RowKit

section
variable {w w' : World} {b b' g B B' : Nat} {t t' e e' : TypeId} {cs cs' : Array Value} {v v' : Value} {xs xs' : List Value}
theorem blk_ne (h : Blk w b t cs) (h' : Blk w b' t' cs') (ht : t ≠ t') : b ≠ b' := by
  rintro rfl
  unfold Blk at h h'
  rw [h] at h'
  injection h' with h'
  injection h' with _ h2
  exact ht h2
theorem Own.blk (ho : Own w B e v xs) (hg : v.ownBlock = some g) : ∃ cs : Array Value, Blk w g e cs ∧ ∀ (j : Nat) (u : Value), xs[j]? = some u → cs[j]? = some u := by
  obtain ⟨h1, h2⟩ := ho
  rcases h2 with ⟨rfl, _⟩ | ⟨g', cap, cur, rfl, e2, e3, e4, e5, e6, e7⟩
  · cases hg
  · have : g' = g := by simpa [Value.ownBlock] using hg
    subst this
    refine ⟨cur, e3, fun j u hu => ?_⟩
    rw [← e7, List.getElem?_take] at hu
    split at hu
    · simpa using hu
    · cases hu
theorem own_ne (h : Blk w b t cs) (ho : Own w B e v xs) (ht : t ≠ e) : some b ≠ v.ownBlock := by
  intro hb
  obtain ⟨cs', h', _⟩ := ho.blk hb.symm
  exact blk_ne h h' ht rfl
theorem Blk.own_grown (h : Blk w b t cs) (ho : Own w B e v xs) (ht : t ≠ e) (hg : w.grownBy w' v.ownBlock) : Blk w' b t cs := h.grown hg (own_ne h ho ht)
theorem Own.own_grown (h : Own w B e v xs) (ho : Own w B' e' v' xs') (ht : e ≠ e') (hg : w.grownBy w' v'.ownBlock) : Own w' B e v xs :=
  World.ownsRow.kept h hg (by
    rcases hob : v.ownBlock with _ | g
    · exact .inl rfl
    · refine .inr ?_
      obtain ⟨cs, h1, _⟩ := h.blk hob
      exact own_ne h1 ho ht)
theorem Own.far (h : Own w B e v xs) (b k : Nat) (hp : b < B) (u : Value) : Own (w.setCell ⟨b, k, none⟩ u) B e v xs :=
  World.ownsRow.kept h (Grown.set (World.grownBy.refl w (some b)) k u) (by
    rcases hob : v.ownBlock with _ | g
    · exact .inl rfl
    · refine .inr ?_
      have := h.block g hob
      intro e; injection e; omega)
end

/-! ### the rows of one nonterminal -/
def rowsV (m j : Nat) (r : Nat → Nat) : List Value := (List.range j).map fun p => .slice (some ⟨r p, 0, none⟩) (m + 1) (m + 1)
structure Rows20 (W : World) (B j m : Nat) (r : Nat → Nat) (v : Value) : Prop where
  own : Own W B 59 v (rowsV m j r)
  bb : ∀ p, p < j → BB W (r p) (List.replicate (m + 1) false)
  lo : ∀ p, p < j → B ≤ r p
  inc : ∀ p q, p < q → q < j → r p < r q
theorem map_ext {α : Type} {j : Nat} {f f' : Nat → α} (h : ∀ p, p < j → f p = f' p) : (List.range j).map f = (List.range j).map f' := List.map_congr_left fun p hp => h p (List.mem_range.1 hp)
theorem Rows20.nil (W : World) (B m : Nat) (r : Nat → Nat) : Rows20 W B 0 m r (.slice none 0 0) := ⟨Own.nil _ _ _, fun p h => absurd h (by omega), fun p h => absurd h (by omega), fun p q _ h => absurd h (by omega)⟩
theorem Rows20.push {W w' : World} {B j m : Nat} {r : Nat → Nat} {v v' : Value} (h : Rows20 W B j m r v) (hB : B ≤ W.heap.size)
    (ho : Own w' B 59 v' (rowsV m j r ++ [.slice (some ⟨W.heap.size, 0, none⟩) (m + 1) (m + 1)]))
    (hg : ((W.alloc (.cells (bools (List.replicate (m + 1) false)).toArray 4)).alloc (.cells #[.slice (some ⟨W.heap.size, 0, none⟩) (m + 1) (m + 1)] 59)).grownBy w' v.ownBlock) :
    Rows20 w' B (j + 1) m (fun p => if p = j then W.heap.size else r p) v' := by
  have hown := (h.own.alloc (.cells (bools (List.replicate (m + 1) false)).toArray 4)).alloc (.cells #[.slice (some ⟨W.heap.size, 0, none⟩) (m + 1) (m + 1)] 59)
  refine ⟨?_, fun p hp => ?_, fun p hp => ?_, fun p q hpq hq => ?_⟩
  · have : rowsV m (j + 1) (fun p => if p = j then W.heap.size else r p) = rowsV m j r ++ [.slice (some ⟨W.heap.size, 0, none⟩) (m + 1) (m + 1)] := by
      unfold rowsV
      rw [List.range_succ, List.map_append, map_ext (f' := fun p => Value.slice (some ⟨r p, 0, none⟩) (m + 1) (m + 1)) fun p hp => by simp [show p ≠ j by omega]]
      simp
    rw [this]; exact ho
  · by_cases e : p = j
    · rw [if_pos e]
      exact ((Blk.new W 4 _).alloc _).own_grown hown (by decide) hg
    · rw [if_neg e]
      exact (((h.bb p (by omega)).alloc _).alloc _).own_grown hown (by decide) hg
  · by_cases e : p = j
    · rw [if_pos e]; exact hB
    · rw [if_neg e]; exact h.lo p (by omega)
  · rw [if_neg (by omega : ¬ p = j)]
    by_cases e : q = j
    · rw [if_pos e]; exact (h.bb p (by omega)).lt
    · rw [if_neg e]; exact h.inc p q hpq (by omega)

/-! ### the table while it is laid -/
def eV (m i : Nat) (T : TV) : List Value := (List.range i).map fun s => .slice (some ⟨T.r1 s, 0, none⟩) (m + 1) (T.c1 s)
def fV (m i : Nat) (T : TV) : List Value := (List.range i).map fun s => .slice (some ⟨T.fr s, 0, none⟩) (m + 1) (m + 1)
structure Tbl (W : World) (tb i k m : Nat) (cs : Array Value) (T : TV) : Prop where
  box : ∃ vE vF, Blk W tb 48 (cs ++ #[vE, vF]) ∧ Own W (tb + 1) 46 vE (eV m i T) ∧ Own W (tb + 1) 59 vF (fV m k T) ∧ ∀ s, s < i → ∀ g, vF.ownBlock = some g → T.r1 s ≠ g
  r1 : ∀ s, s < i → ∃ c, Blk W (T.r1 s) 59 c ∧ ∀ p, p ≤ m → c[p]? = some (.slice (some ⟨T.r2 s p, 0, none⟩) (m + 1) (m + 1))
  c1 : ∀ s, s < i → m + 1 ≤ T.c1 s ∧ T.c1 s ≤ 9223372036854775807
  bb : ∀ s, s < i → ∀ p, p ≤ m → BB W (T.r2 s p) (List.replicate (m + 1) false)
  fb : ∀ s, s < k → BB W (T.fr s) ((List.replicate (m + 1) false).set m true)
  o1 : ∀ s, s < i → ∀ p q, p < q → q ≤ m → T.r2 s p < T.r2 s q
  o2 : ∀ s, s < k → ∀ p, p ≤ m → T.r2 s p < T.fr s
  o3 : ∀ s s', s < s' → s < k → s' < i → ∀ p, p ≤ m → T.fr s < T.r2 s' p
  lo : ∀ s, s < i → ∀ p, p ≤ m → tb < T.r2 s p
theorem Tbl.below {W W' : World} {tb i k m : Nat} {cs : Array Value} {T : TV} (h : Tbl W tb i k m cs T) (hb : Below W.heap.size W W') : Tbl W' tb i k m cs T := by
  obtain ⟨⟨vE, vF, b1, b2, b3, b4⟩, r1, c1, bb, fb, o1, o2, o3, lo⟩ := h
  exact ⟨⟨vE, vF, b1.below hb b1.lt, b2.below hb (Nat.le_refl _), b3.below hb (Nat.le_refl _), b4⟩, fun s hs => let ⟨c, h1, h2⟩ := r1 s hs; ⟨c, h1.below hb h1.lt, h2⟩, c1, fun s hs p hp => (bb s hs p hp).below hb (bb s hs p hp).lt, fun s hs => (fb s hs).below hb (fb s hs).lt, o1, o2, o3, lo⟩
/-- One more nonterminal's rows. -/
def TV.addE (T : TV) (i g c : Nat) (r : Nat → Nat) : TV := { T with r1 := fun s => if s = i then g else T.r1 s, c1 := fun s => if s = i then c else T.c1 s, r2 := fun s p => if s = i then r p else T.r2 s p }
def TV.addF (T : TV) (i b : Nat) : TV := { T with fr := fun s => if s = i then b else T.fr s }
theorem Tbl.pushE {W w1 : World} {tb i m B c : Nat} {cs : Array Value} (hcs : cs.size = 4) {T : TV} {r : Nat → Nat} {vE vF vE' v : Value} {g : Nat} (h : Tbl W tb i i m cs T)
    (hbx : Blk W tb 48 (cs ++ #[vE, vF])) (hE : Own W (tb + 1) 46 vE (eV m i T)) (hF : Own W (tb + 1) 59 vF (fV m i T)) (hfE : ∀ s, s < i → ∀ g, vF.ownBlock = some g → T.r1 s ≠ g)
    (hR : Rows20 W B (m + 1) m r v) (hv : v = .slice (some ⟨g, 0, none⟩) (m + 1) c) (hc : m + 1 ≤ c ∧ c ≤ 9223372036854775807) (htB : tb < B) (hB : ∀ s, s < i → T.fr s < B) (hFB : ∀ g, vF.ownBlock = some g → g < B) (hgB : B ≤ g)
    (ho : Own w1 (tb + 1) 46 vE' (eV m i T ++ [v])) (hg : (W.alloc (.cells #[v] 46)).grownBy w1 vE.ownBlock) :
    Tbl (w1.setCell ⟨tb, 4, none⟩ vE') tb (i + 1) i m cs (T.addE i g c r) := by
  obtain ⟨-, r1, c1, bb, fb, o1, o2, o3, lo⟩ := h
  have hE2 := hE.alloc (.cells #[v] 46)
  have hbx2 := hbx.alloc (.cells #[v] 46)
  have kb : ∀ {b : Nat} {t : TypeId} {cs' : Array Value}, t ≠ 46 → t ≠ 48 → Blk W b t cs' → Blk (w1.setCell ⟨tb, 4, none⟩ vE') b t cs' := fun h1 h2 hb => ((hb.alloc _).own_grown hE2 h1 hg).far (blk_ne hb hbx h2) _
  have hbx3 := (hbx2.own_grown hE2 (by decide) hg).set_ 4 vE'
  have es : (cs ++ #[vE, vF]).setIfInBounds 4 vE' = cs ++ #[vE', vF] := by
    apply Array.ext'
    obtain ⟨l⟩ := cs
    have hl : l.length = 4 := hcs
    match l, hl with
    | [a, b, c, d], _ => rfl
  rw [es] at hbx3
  have hob : v.ownBlock = some g := by rw [hv]; rfl
  obtain ⟨rc, hrc, hrc2⟩ := hR.own.blk hob
  refine ⟨⟨vE', vF, hbx3, ?_, ?_, fun s hs g' hg' => ?_⟩, fun s hs => ?_, fun s hs => ?_, fun s hs p hp => ?_, fun s hs => ?_, fun s hs p q hpq hq => ?_, fun s hs p hp => ?_, fun s s' hss hs hs' p hp => ?_, fun s hs p hp => ?_⟩
  · have : eV m (i + 1) (T.addE i g c r) = eV m i T ++ [v] := by
      unfold eV
      rw [List.range_succ, List.map_append, map_ext (f' := fun s => Value.slice (some ⟨T.r1 s, 0, none⟩) (m + 1) (T.c1 s)) fun p hp => by simp [TV.addE, show p ≠ i by omega]]
      simp [TV.addE, hv]
    rw [this]; exact ho.far tb 4 (by omega) _
  · exact ((hF.alloc _).own_grown hE2 (by decide) hg).far tb 4 (by omega) _
  · by_cases e : s = i
    · have := hFB g' hg'
      simp only [TV.addE, if_pos e]; omega
    · simp only [TV.addE, if_neg e]
      exact hfE s (by omega) g' hg'
  · by_cases e : s = i
    · refine ⟨rc, by simp only [TV.addE, if_pos e]; exact kb (by decide) (by decide) hrc, fun p hp => ?_⟩
      simp only [TV.addE, if_pos e]
      exact hrc2 p _ (by unfold rowsV; simp [show p < m + 1 by omega])
    · obtain ⟨c', h1, h2⟩ := r1 s (by omega)
      exact ⟨c', by simp only [TV.addE, if_neg e]; exact kb (by decide) (by decide) h1, fun p hp => by simp only [TV.addE, if_neg e]; exact h2 p hp⟩
  · by_cases e : s = i
    · simp only [TV.addE, if_pos e]; exact hc
    · simp only [TV.addE, if_neg e]; exact c1 s (by omega)
  · by_cases e : s = i
    · simp only [TV.addE, if_pos e]; exact kb (by decide) (by decide) (hR.bb p (by omega))
    · simp only [TV.addE, if_neg e]; exact kb (by decide) (by decide) (bb s (by omega) p hp)
  · exact kb (by decide) (by decide) (fb s hs)
  · by_cases e : s = i
    · simp only [TV.addE, if_pos e]; exact hR.inc p q hpq (by omega)
    · simp only [TV.addE, if_neg e]; exact o1 s (by omega) p q hpq hq
  · simp only [TV.addE, if_neg (by omega : ¬ s = i)]; exact o2 s hs p hp
  · by_cases e : s' = i
    · simp only [TV.addE, if_pos e]
      have := hB s hs
      have := hR.lo p (by omega)
      omega
    · simp only [TV.addE, if_neg e]; exact o3 s s' hss hs (by omega) p hp
  · by_cases e : s = i
    · simp only [TV.addE, if_pos e]
      have := hR.lo p (by omega)
      omega
    · simp only [TV.addE, if_neg e]; exact lo s (by omega) p hp
theorem Tbl.pushF {W w1 : World} {tb i m nb : Nat} {cs c1s : Array Value} (hcs : cs.size = 4) {T : TV} {vE vF vF' : Value} (h : Tbl W tb (i + 1) i m cs T)
    (hbx : Blk W tb 48 (cs ++ #[vE, vF])) (hE : Own W (tb + 1) 46 vE (eV m (i + 1) T)) (hF : Own W (tb + 1) 59 vF (fV m i T)) (hfE : ∀ s, s < i + 1 → ∀ g, vF.ownBlock = some g → T.r1 s ≠ g)
    (hnb : nb = W.heap.size) (hc1 : c1s = (bools ((List.replicate (m + 1) false).set m true)).toArray)
    (ho : Own w1 (tb + 1) 59 vF' (fV m i T ++ [.slice (some ⟨nb, 0, none⟩) (m + 1) (m + 1)]))
    (hg : ((W.alloc (.cells c1s 4)).alloc (.cells #[.slice (some ⟨nb, 0, none⟩) (m + 1) (m + 1)] 59)).grownBy w1 vF.ownBlock) :
    Tbl (w1.setCell ⟨tb, 5, none⟩ vF') tb (i + 1) (i + 1) m cs (T.addF i nb) := by
  subst hnb hc1
  obtain ⟨-, r1, c1, bb, fb, o1, o2, o3, lo⟩ := h
  have k0 : ∀ {b : Nat} {t : TypeId} {cs' : Array Value}, Blk W b t cs' → Blk ((W.alloc (.cells (bools ((List.replicate (m + 1) false).set m true)).toArray 4)).alloc (.cells #[.slice (some ⟨W.heap.size, 0, none⟩) (m + 1) (m + 1)] 59)) b t cs' := fun hb => (hb.alloc _).alloc _
  have o0 : ∀ {B : Nat} {e : TypeId} {v : Value} {xs : List Value}, Own W B e v xs → Own ((W.alloc (.cells (bools ((List.replicate (m + 1) false).set m true)).toArray 4)).alloc (.cells #[.slice (some ⟨W.heap.size, 0, none⟩) (m + 1) (m + 1)] 59)) B e v xs := fun ho => (ho.alloc _).alloc _
  have hF2 := o0 hF
  have kb : ∀ {b : Nat} {t : TypeId} {cs' : Array Value}, t ≠ 59 → t ≠ 48 → Blk W b t cs' → Blk (w1.setCell ⟨tb, 5, none⟩ vF') b t cs' := fun h1 h2 hb => ((k0 hb).own_grown hF2 h1 hg).far (blk_ne hb hbx h2) _
  have hbx3 := ((k0 hbx).own_grown hF2 (by decide) hg).set_ 5 vF'
  have es : (cs ++ #[vE, vF]).setIfInBounds 5 vF' = cs ++ #[vE, vF'] := by
    apply Array.ext'
    obtain ⟨l⟩ := cs
    have hl : l.length = 4 := hcs
    match l, hl with
    | [a, b, c, d], _ => rfl
  rw [es] at hbx3
  have kr : ∀ {s : Nat} {c : Array Value}, s < i + 1 → Blk W (T.r1 s) 59 c → Blk (w1.setCell ⟨tb, 5, none⟩ vF') (T.r1 s) 59 c := fun hs hb => ((k0 hb).grown hg (fun e => hfE _ hs _ e.symm rfl)).far (blk_ne hb hbx (by decide)) _
  have hfV : fV m (i + 1) (T.addF i W.heap.size) = fV m i T ++ [.slice (some ⟨W.heap.size, 0, none⟩) (m + 1) (m + 1)] := by
    unfold fV
    rw [List.range_succ, List.map_append, map_ext (f' := fun s => Value.slice (some ⟨T.fr s, 0, none⟩) (m + 1) (m + 1)) fun p hp => by simp [TV.addF, show p ≠ i by omega]]
    simp [TV.addF]
  have hown := ho.far tb 5 (by omega) vF'
  rw [← hfV] at hown
  have hlt : ∀ s, s < i + 1 → ∀ p, p ≤ m → T.r2 s p < W.heap.size := fun s hs p hp => (bb s hs p hp).lt
  have ho2 : ∀ s, s < i + 1 → ∀ p, p ≤ m → T.r2 s p < (T.addF i W.heap.size).fr s := fun s hs p hp => by
    by_cases e : s = i
    · simp only [TV.addF, if_pos e]; exact hlt s hs p hp
    · simp only [TV.addF, if_neg e]; exact o2 s (by omega) p hp
  have ho3 : ∀ s s', s < s' → s < i + 1 → s' < i + 1 → ∀ p, p ≤ m → (T.addF i W.heap.size).fr s < T.r2 s' p := fun s s' hss hs hs' p hp => by
    simp only [TV.addF, if_neg (by omega : ¬ s = i)]; exact o3 s s' hss (by omega) hs' p hp
  refine ⟨⟨vE, vF', hbx3, ((o0 hE).own_grown hF2 (by decide) hg).far tb 5 (by omega) _, hown, fun s hs g' hg' => ?_⟩, fun s hs => ?_, c1, fun s hs p hp => kb (by decide) (by decide) (bb s hs p hp), fun s hs => ?_, o1, ho2, ho3, lo⟩
  · obtain ⟨c', h1, h2⟩ := hown.blk hg'
    obtain ⟨c, h3, h4⟩ := r1 s hs
    have h3' := kr hs h3
    intro (e : T.r1 s = g')
    subst e
    unfold Blk at h1 h3'
    have h5 : c' = c := by
      rw [h1] at h3'
      injection h3' with h3'
      injection h3'
    subst h5
    have e1 := h4 0 (Nat.zero_le _)
    have e2 := h2 0 (.slice (some ⟨(T.addF i W.heap.size).fr 0, 0, none⟩) (m + 1) (m + 1)) (by unfold fV; simp)
    rw [e2] at e1
    injection e1 with e1
    injection e1 with e1
    injection e1 with e1
    injection e1 with e1
    rcases Nat.eq_zero_or_pos s with rfl | hs0
    · have := ho2 0 hs 0 (Nat.zero_le _); omega
    · have := ho3 0 s hs0 (by omega) hs 0 (Nat.zero_le _); omega
  · obtain ⟨c, h1, h2⟩ := r1 s hs
    exact ⟨c, kr hs h1, h2⟩
  · by_cases e : s = i
    · simp only [TV.addF, if_pos e]
      have hb0 : BB (W.alloc (.cells (bools ((List.replicate (m + 1) false).set m true)).toArray 4)) W.heap.size ((List.replicate (m + 1) false).set m true) := Blk.new W 4 _
      exact ((Blk.alloc hb0 _).own_grown hF2 (by decide) hg).far (blk_ne (Blk.alloc hb0 (.cells #[.slice (some ⟨W.heap.size, 0, none⟩) (m + 1) (m + 1)] 59)) (k0 hbx) (by decide)) _
    · simp only [TV.addF, if_neg e]; exact kb (by decide) (by decide) (fb s (by omega))
end Go.Proofs.Ythpjjlmgdalpaaa
