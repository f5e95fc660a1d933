/- The reference's table while it is filled. -/
import Derived.Test.YthpjjlmgdalpaaaE6
import Derived.Test.YthpjjlmgdalpaaaP1
namespace Go.Proofs.Ythpjjlmgdalpaaa
open Go.RowKit

def rowB (m : Nat) (f : Nat → Bool) : List Bool := (List.range (m + 1)).map f
theorem rowB_len (m : Nat) (f : Nat → Bool) : (rowB m f).length = m + 1 := by unfold rowB; simp
theorem rowB_get (m : Nat) (f : Nat → Bool) (q : Nat) (h : q ≤ m) : (rowB m f).getD q false = f q := by
  unfold rowB; simp [List.getD, show q < m + 1 by omega]
theorem rowB_set (m : Nat) (f : Nat → Bool) (q : Nat) : (rowB m f).set q true = rowB m fun j => if j = q then true else f j := by
  apply List.ext_getElem
  · simp [rowB]
  · intro i h1 h2
    simp only [rowB, List.getElem_set, List.getElem_map, List.getElem_range]
    by_cases e : q = i
    · rw [if_pos e, if_pos e.symm]
    · rw [if_neg e, if_neg (fun h => e h.symm)]
def updE (E : Nat → Nat → Nat → Bool) (s p q : Nat) : Nat → Nat → Nat → Bool := fun s' p' q' => if s' = s ∧ p' = p ∧ q' = q then true else E s' p' q'
def updF (F : Nat → Nat → Bool) (s p : Nat) : Nat → Nat → Bool := fun s' p' => if s' = s ∧ p' = p then true else F s' p'

structure Fix20 (W : World) (tb n m : Nat) (cs : Array Value) (T : TV) (E : Nat → Nat → Nat → Bool) (F : Nat → Nat → Bool) : Prop where
  box : Blk W tb 48 (cs ++ #[.slice (some ⟨T.eb, 0, none⟩) n T.ec, .slice (some ⟨T.fb, 0, none⟩) n T.fc])
  e0 : ∃ c, Blk W T.eb 46 c ∧ ∀ s, s < n → c[s]? = some (.slice (some ⟨T.r1 s, 0, none⟩) (m + 1) (T.c1 s))
  f0 : ∃ c, Blk W T.fb 59 c ∧ ∀ s, s < n → c[s]? = some (.slice (some ⟨T.fr s, 0, none⟩) (m + 1) (m + 1))
  r1 : ∀ s, s < n → ∃ c, Blk W (T.r1 s) 59 c ∧ ∀ p, p ≤ m → c[p]? = some (.slice (some ⟨T.r2 s p, 0, none⟩) (m + 1) (m + 1))
  bb : ∀ s, s < n → ∀ p, p ≤ m → BB W (T.r2 s p) (rowB m (E s p))
  fb : ∀ s, s < n → BB W (T.fr s) (rowB m (F s))
  o1 : ∀ s, s < n → ∀ p q, p < q → q ≤ m → T.r2 s p < T.r2 s q
  o2 : ∀ s, s < n → ∀ p, p ≤ m → T.r2 s p < T.fr s
  o3 : ∀ s s', s < s' → s < n → s' < n → ∀ p, p ≤ m → T.fr s < T.r2 s' p
  lo : ∀ s, s < n → ∀ p, p ≤ m → tb < T.r2 s p
  c1 : ∀ s, s < n → m + 1 ≤ T.c1 s ∧ T.c1 s ≤ 9223372036854775807
  ca : n ≤ T.ec ∧ T.ec ≤ 9223372036854775807 ∧ n ≤ T.fc ∧ T.fc ≤ 9223372036854775807
section
variable {W W' : World} {tb n m : Nat} {cs : Array Value} {T : TV} {E : Nat → Nat → Nat → Bool} {F : Nat → Nat → Bool}
theorem Fix20.below (h : Fix20 W tb n m cs T E F) (hb : Below W.heap.size W W') : Fix20 W' tb n m cs T E F := by
  obtain ⟨b, ⟨c, e1, e2⟩, ⟨c', f1, f2⟩, r1, bb, fb, o1, o2, o3, lo, c1, ca⟩ := h
  exact ⟨b.below hb b.lt, ⟨c, e1.below hb e1.lt, e2⟩, ⟨c', f1.below hb f1.lt, f2⟩, fun s hs => let ⟨c, h1, h2⟩ := r1 s hs; ⟨c, h1.below hb h1.lt, h2⟩, fun s hs p hp => (bb s hs p hp).below hb (bb s hs p hp).lt, fun s hs => (fb s hs).below hb (fb s hs).lt, o1, o2, o3, lo, c1, ca⟩
theorem Fix20.heap (h : Fix20 W tb n m cs T E F) (hW : W'.heap = W.heap) : Fix20 W' tb n m cs T E F := by
  obtain ⟨b, ⟨c, e1, e2⟩, ⟨c', f1, f2⟩, r1, bb, fb, o1, o2, o3, lo, c1, ca⟩ := h
  have k : ∀ {b : Nat} {t : TypeId} {cs' : Array Value}, Blk W b t cs' → Blk W' b t cs' := fun h => by unfold Blk at *; rw [hW]; exact h
  exact ⟨k b, ⟨c, k e1, e2⟩, ⟨c', k f1, f2⟩, fun s hs => let ⟨c, h1, h2⟩ := r1 s hs; ⟨c, k h1, h2⟩, fun s hs p hp => k (bb s hs p hp), fun s hs => k (fb s hs), o1, o2, o3, lo, c1, ca⟩
theorem Fix20.tab (h : Fix20 W tb n m cs T E F) : TabAt W T n m E F := by
  obtain ⟨b, ⟨c, e1, e2⟩, ⟨c', f1, f2⟩, r1, bb, fb, o1, o2, o3, lo, c1, ca⟩ := h
  refine ⟨fun s hs => by rw [e1.cell, e2 s hs], fun s hs p hp => ?_, fun s hs p hp q hq => ?_, fun s hs => by rw [f1.cell, f2 s hs], fun s hs q hq => ?_⟩
  · obtain ⟨c, h1, h2⟩ := r1 s hs
    rw [h1.cell, h2 p hp]
  · rw [(bb s hs p hp).at_ q (by rw [rowB_len]; omega), rowB_get m _ q hq]
  · rw [(fb s hs).at_ q (by rw [rowB_len]; omega), rowB_get m _ q hq]
theorem Fix20.sep (h : Fix20 W tb n m cs T E F) {s p s' p' : Nat} (hs : s < n) (hs' : s' < n) (hp : p ≤ m) (hp' : p' ≤ m) (he : T.r2 s p = T.r2 s' p') : s = s' ∧ p = p' := by
  rcases Nat.lt_trichotomy s s' with h1 | h1 | h1
  · have := h.o2 s hs p hp; have := h.o3 s s' h1 hs hs' p' hp'; omega
  · subst h1
    refine ⟨rfl, ?_⟩
    rcases Nat.lt_trichotomy p p' with h2 | h2 | h2
    · have := h.o1 s hs p p' h2 hp'; omega
    · exact h2
    · have := h.o1 s hs p' p h2 hp; omega
  · have := h.o2 s' hs' p' hp'; have := h.o3 s' s h1 hs' hs p hp; omega
theorem Fix20.sepF (h : Fix20 W tb n m cs T E F) {s p s' : Nat} (hs : s < n) (hs' : s' < n) (hp : p ≤ m) : T.r2 s p ≠ T.fr s' := by
  rcases Nat.lt_trichotomy s s' with h1 | h1 | h1
  · have := h.o2 s hs p hp; have := h.o3 s s' h1 hs hs' 0 (by omega); have := h.o2 s' hs' 0 (by omega); omega
  · subst h1; have := h.o2 s hs p hp; omega
  · have := h.o3 s' s h1 hs' hs p hp; omega
theorem Fix20.sepFF (h : Fix20 W tb n m cs T E F) {s s' : Nat} (hs : s < n) (hs' : s' < n) (he : T.fr s = T.fr s') : s = s' := by
  rcases Nat.lt_trichotomy s s' with h1 | h1 | h1
  · have := h.o3 s s' h1 hs hs' 0 (by omega); have := h.o2 s' hs' 0 (by omega); omega
  · exact h1
  · have := h.o3 s' s h1 hs' hs 0 (by omega); have := h.o2 s hs 0 (by omega); omega
theorem Fix20.setE (h : Fix20 W tb n m cs T E F) {a p : Nat} (ha : a < n) (hp : p ≤ m) (q : Nat) : Fix20 (W.setCell ⟨T.r2 a p, q, none⟩ (.bool true)) tb n m cs T (updE E a p q) F := by
  have h' := h
  obtain ⟨b, ⟨c, e1, e2⟩, ⟨c', f1, f2⟩, r1, bb, fb, o1, o2, o3, lo, c1, ca⟩ := h
  have kb : ∀ {b : Nat} {t : TypeId} {cs' : Array Value}, t ≠ 4 → Blk W b t cs' → Blk (W.setCell ⟨T.r2 a p, q, none⟩ (.bool true)) b t cs' := fun ht hb => hb.far (blk_ne hb (bb a ha p hp) ht) _
  refine ⟨kb (by decide) b, ⟨c, kb (by decide) e1, e2⟩, ⟨c', kb (by decide) f1, f2⟩, fun s hs => let ⟨c, h1, h2⟩ := r1 s hs; ⟨c, kb (by decide) h1, h2⟩, fun s hs p' hp' => ?_, fun s hs => ?_, o1, o2, o3, lo, c1, ca⟩
  · by_cases e : s = a ∧ p' = p
    · obtain ⟨rfl, rfl⟩ := e
      have := (bb s hs p' hp').set q true
      rw [rowB_set] at this
      have e2 : updE E s p' q s p' = fun j => if j = q then true else E s p' j := by funext j; simp [updE]
      rw [e2]; exact this
    · have e2 : updE E a p q s p' = E s p' := by funext j; unfold updE; rw [if_neg fun h => e ⟨h.1, h.2.1⟩]
      rw [e2]
      exact (bb s hs p' hp').far (fun hh => e (h'.sep hs ha hp' hp hh)) _
  · exact (fb s hs).far (fun hh => h'.sepF ha hs hp hh.symm) _
theorem Fix20.far (h : Fix20 W tb n m cs T E F) {b : Nat} {cb : Array Value} (hb : Blk W b 48 cb) (hne : tb ≠ b) (k : Nat) (u : Value) : Fix20 (W.setCell ⟨b, k, none⟩ u) tb n m cs T E F := by
  obtain ⟨bx, ⟨c, e1, e2⟩, ⟨c', f1, f2⟩, r1, bb, fb, o1, o2, o3, lo, c1, ca⟩ := h
  have kb : ∀ {b' : Nat} {t : TypeId} {cs' : Array Value}, t ≠ 48 → Blk W b' t cs' → Blk (W.setCell ⟨b, k, none⟩ u) b' t cs' := fun ht hb' => hb'.far (blk_ne hb' hb ht) _
  exact ⟨bx.far hne u, ⟨c, kb (by decide) e1, e2⟩, ⟨c', kb (by decide) f1, f2⟩, fun s hs => let ⟨c, h1, h2⟩ := r1 s hs; ⟨c, kb (by decide) h1, h2⟩, fun s hs p hp => kb (by decide) (bb s hs p hp), fun s hs => kb (by decide) (fb s hs), o1, o2, o3, lo, c1, ca⟩
theorem Fix20.setF (h : Fix20 W tb n m cs T E F) {a : Nat} (ha : a < n) (p : Nat) : Fix20 (W.setCell ⟨T.fr a, p, none⟩ (.bool true)) tb n m cs T E (updF F a p) := by
  have h' := h
  obtain ⟨b, ⟨c, e1, e2⟩, ⟨c', f1, f2⟩, r1, bb, fb, o1, o2, o3, lo, c1, ca⟩ := h
  have kb : ∀ {b : Nat} {t : TypeId} {cs' : Array Value}, t ≠ 4 → Blk W b t cs' → Blk (W.setCell ⟨T.fr a, p, none⟩ (.bool true)) b t cs' := fun ht hb => hb.far (blk_ne hb (fb a ha) ht) _
  refine ⟨kb (by decide) b, ⟨c, kb (by decide) e1, e2⟩, ⟨c', kb (by decide) f1, f2⟩, fun s hs => let ⟨c, h1, h2⟩ := r1 s hs; ⟨c, kb (by decide) h1, h2⟩, fun s hs p' hp' => ?_, fun s hs => ?_, o1, o2, o3, lo, c1, ca⟩
  · exact (bb s hs p' hp').far (fun hh => h'.sepF hs ha hp' hh) _
  · by_cases e : s = a
    · subst e
      have := (fb s hs).set p true
      rw [rowB_set] at this
      have e2 : updF F s p s = fun j => if j = p then true else F s j := by funext j; simp [updF]
      rw [e2]; exact this
    · have e2 : updF F a p s = F s := by funext j; unfold updF; rw [if_neg fun h => e h.1]
      rw [e2]
      exact (fb s hs).far (fun hh => e (h'.sepFF hs ha hh)) _
/-- From the table that was laid. -/
theorem Tbl.fix (h : Tbl W tb n n m cs T) (hn : 0 < n) : ∃ T', Fix20 W tb n m cs T' (fun _ _ _ => false) (fun _ q => decide (q = m)) := by
  obtain ⟨⟨vE, vF, b1, b2, b3, b4⟩, r1, c1, bb, fb, o1, o2, o3, lo⟩ := h
  have lE : (eV m n T).length = n := by unfold eV; simp
  have lF : (fV m n T).length = n := by unfold fV; simp
  obtain ⟨Ae, ce, he, h1, h2, -, h4⟩ := id b2.form
  obtain ⟨Af, cf, hf, k1, k2, -, k4⟩ := id b3.form
  rw [lE] at he h1; rw [lF] at hf k1
  obtain ⟨ge, rfl, -, -⟩ := h4 (by intro e; rw [e] at lE; simp at lE; omega)
  obtain ⟨gf, rfl, -, -⟩ := k4 (by intro e; rw [e] at lF; simp at lF; omega)
  subst he hf
  obtain ⟨ec, x1, x2⟩ := b2.blk rfl
  obtain ⟨fc, y1, y2⟩ := b3.blk rfl
  refine ⟨{ T with eb := ge, ec := ce, fb := gf, fc := cf }, b1, ⟨ec, x1, fun s hs => x2 s _ (by unfold eV; simp [hs])⟩, ⟨fc, y1, fun s hs => y2 s _ (by unfold fV; simp [hs])⟩, r1, fun s hs p hp => ?_, fun s hs => ?_, o1, o2, o3, lo, c1, ⟨h1, h2, k1, k2⟩⟩
  · have := bb s hs p hp
    have e : rowB m (fun _ => false) = List.replicate (m + 1) false := by
      apply List.ext_getElem
      · simp [rowB]
      · intro i _ _; simp [rowB]
    rw [e]; exact this
  · have := fb s hs
    have e : rowB m (fun q => decide (q = m)) = (List.replicate (m + 1) false).set m true := by
      apply List.ext_getElem
      · simp [rowB]
      · intro i _ _
        simp only [rowB, List.getElem_map, List.getElem_range, List.getElem_set, List.getElem_replicate]
        by_cases e : m = i
        · rw [if_pos e]; simp [e]
        · rw [if_neg e]; simp; omega
    rw [e]; exact this
end

/-! ### how much is not told yet -/
def trip (n m : Nat) : List (Nat × Nat × Nat) := (List.range n).flatMap fun s => (List.range (m + 1)).flatMap fun p => (List.range (m + 1)).map fun q => (s, p, q)
def pairs20 (n m : Nat) : List (Nat × Nat) := (List.range n).flatMap fun s => (List.range (m + 1)).map fun p => (s, p)
def fls (n m : Nat) (E : Nat → Nat → Nat → Bool) (F : Nat → Nat → Bool) : Nat := ((trip n m).filter fun t => !E t.1 t.2.1 t.2.2).length + ((pairs20 n m).filter fun t => !F t.1 t.2).length
theorem filter_lt {α : Type} {l : List α} {p q : α → Bool} (h : ∀ x, q x = true → p x = true) {x : α} (hx : x ∈ l) (hp : p x = true) (hq : q x = false) : (l.filter q).length < (l.filter p).length := by
  induction l with
  | nil => cases hx
  | cons y l ih =>
    have hle : (l.filter q).length ≤ (l.filter p).length := by
      clear ih hx
      induction l with
      | nil => simp
      | cons z l ih =>
        simp only [List.filter_cons]
        by_cases h1 : q z = true
        · rw [if_pos h1, if_pos (h z h1)]; simpa using ih
        · rw [if_neg h1]; split <;> (try simp only [List.length_cons]) <;> omega
    simp only [List.filter_cons]
    rcases List.mem_cons.1 hx with rfl | hx
    · rw [if_neg (by rw [hq]; exact Bool.false_ne_true), if_pos hp]; simp; omega
    · have := ih hx
      by_cases h1 : q y = true
      · rw [if_pos h1, if_pos (h y h1)]; simpa using this
      · rw [if_neg h1]; split <;> (try simp only [List.length_cons]) <;> omega
theorem fls_E {n m : Nat} {E : Nat → Nat → Nat → Bool} {F : Nat → Nat → Bool} {s p q : Nat} (hs : s < n) (hp : p ≤ m) (hq : q ≤ m) (h : E s p q = false) : fls n m (updE E s p q) F < fls n m E F := by
  unfold fls
  apply Nat.add_lt_add_right
  refine filter_lt (x := (s, p, q)) (fun x hx => ?_) ?_ (by simp [h]) (by simp [updE])
  · unfold updE at hx
    split at hx
    · cases hx
    · exact hx
  · unfold trip
    simp only [List.mem_flatMap, List.mem_map, List.mem_range]
    exact ⟨s, hs, p, by omega, q, by omega, rfl⟩
theorem fls_F {n m : Nat} {E : Nat → Nat → Nat → Bool} {F : Nat → Nat → Bool} {s p : Nat} (hs : s < n) (hp : p ≤ m) (h : F s p = false) : fls n m E (updF F s p) < fls n m E F := by
  unfold fls
  apply Nat.add_lt_add_left
  refine filter_lt (x := (s, p)) (fun x hx => ?_) ?_ (by simp [h]) (by simp [updF])
  · unfold updF at hx
    split at hx
    · cases hx
    · exact hx
  · unfold pairs20
    simp only [List.mem_flatMap, List.mem_map, List.mem_range]
    exact ⟨s, hs, p, by omega, rfl⟩
/-- What has come of a round so far: more is told, or nothing has changed and something is known. -/
def Pr20 (n m : Nat) (E0 : Nat → Nat → Nat → Bool) (F0 : Nat → Nat → Bool) (E : Nat → Nat → Nat → Bool) (F : Nat → Nat → Bool) (b : Bool) (Q : Prop) : Prop := (b = true ∧ fls n m E F < fls n m E0 F0) ∨ (b = false ∧ E = E0 ∧ F = F0 ∧ Q)
section
variable {n m : Nat} {E0 E : Nat → Nat → Nat → Bool} {F0 F : Nat → Nat → Bool} {b : Bool} {Q Q' : Prop}
theorem Pr20.mono (h : Pr20 n m E0 F0 E F b Q) (hQ : E = E0 → F = F0 → Q → Q') : Pr20 n m E0 F0 E F b Q' := h.imp id fun ⟨a, c, d, e⟩ => ⟨a, c, d, hQ c d e⟩
theorem Pr20.le (h : Pr20 n m E0 F0 E F b Q) : fls n m E F ≤ fls n m E0 F0 := by
  rcases h with ⟨_, h⟩ | ⟨_, rfl, rfl, _⟩ <;> omega
theorem Pr20.setE (h : Pr20 n m E0 F0 E F b Q) {s p q : Nat} (hs : s < n) (hp : p ≤ m) (hq : q ≤ m) (he : E s p q = false) : Pr20 n m E0 F0 (updE E s p q) F true Q' := .inl ⟨rfl, Nat.lt_of_lt_of_le (fls_E hs hp hq he) h.le⟩
theorem Pr20.setF (h : Pr20 n m E0 F0 E F b Q) {s p : Nat} (hs : s < n) (hp : p ≤ m) (he : F s p = false) : Pr20 n m E0 F0 E (updF F s p) true Q' := .inl ⟨rfl, Nat.lt_of_lt_of_le (fls_F hs hp he) h.le⟩
end

/-! ### what is told is derived -/
section
variable {rs : List Rule} {wl : List UInt8} {n : Nat} {E : Nat → Nat → Nat → Bool} {F : Nat → Nat → Bool}
theorem Snd.start (hP : ∀ s, s < n → ∃ y, Der rs [(s : Int)] y) : Snd rs wl n (fun _ _ _ => false) (fun _ q => decide (q = wl.length)) :=
  ⟨fun s hs p q hp hq h => (by cases h), fun s hs p hp h => by
    obtain rfl := of_decide_eq_true h
    obtain ⟨y, hy⟩ := hP s hs
    exact ⟨y, by simpa using hy⟩⟩
theorem Snd.setE (h : Snd rs wl n E F) {a p q : Nat} (hd : p ≤ q ∧ Der rs [(a : Int)] (seg wl p q)) : Snd rs wl n (updE E a p q) F := by
  refine ⟨fun s hs p' q' hp' hq' he => ?_, h.2⟩
  unfold updE at he
  split at he
  · next e => obtain ⟨rfl, rfl, rfl⟩ := e; exact hd
  · exact h.1 s hs p' q' hp' hq' he
theorem Snd.setF (h : Snd rs wl n E F) {a p : Nat} (hd : ∃ y, Der rs [(a : Int)] (wl.drop p ++ y)) : Snd rs wl n E (updF F a p) := by
  refine ⟨h.1, fun s hs p' hp' he => ?_⟩
  unfold updF at he
  split at he
  · next e => obtain ⟨rfl, rfl⟩ := e; exact hd
  · exact h.2 s hs p' hp' he
theorem Der.rule {r : Rule} (hr : r ∈ rs) (h0 : 0 ≤ r.left) {x : List UInt8} (h : Der rs r.right x) : Der rs [r.left] x := by
  have := Der.non hr h0 h .nil
  rwa [List.append_nil] at this
theorem Snd.ends (h : Snd rs wl n E F) {r : Rule} (hr : r ∈ rs) (h0 : 0 ≤ r.left) (hs : ∀ s ∈ r.right, s < (n : Int)) {p q : Nat} (hp : p ≤ wl.length) (hq : q ≤ wl.length) (hpath : Path wl E r.right p q) : p ≤ q ∧ Der rs [((r.left.toNat : Nat) : Int)] (seg wl p q) := by
  obtain ⟨a, b⟩ := path_der h r.right p q hs hp hq hpath
  rw [Int.toNat_of_nonneg h0]
  exact ⟨a, Der.rule hr h0 b⟩
theorem Snd.begs (h : Snd rs wl n E F) {r : Rule} (hr : r ∈ rs) (h0 : 0 ≤ r.left) (hP : Prd rs n r.right) {p : Nat} (hp : p ≤ wl.length) (hb : BegP wl E F r.right p) : ∃ y, Der rs [((r.left.toNat : Nat) : Int)] (wl.drop p ++ y) := by
  obtain ⟨y, hy⟩ := beg_der h r.right p hP hp hb
  rw [Int.toNat_of_nonneg h0]
  exact ⟨y, Der.rule hr h0 hy⟩
/-- A rule's part of what is closed, up to a place. -/
def ClsR (wl : List UInt8) (E : Nat → Nat → Nat → Bool) (F : Nat → Nat → Bool) (r : Rule) (p0 : Nat) : Prop :=
  ∀ p, p < p0 → (∀ q, q ≤ wl.length → Path wl E r.right p q → E r.left.toNat p q = true) ∧ (BegP wl E F r.right p → F r.left.toNat p = true)
def ClsI (rs : List Rule) (wl : List UInt8) (E : Nat → Nat → Nat → Bool) (F : Nat → Nat → Bool) (i : Nat) : Prop := ∀ j (h : j < rs.length), j < i → ClsR wl E F rs[j] (wl.length + 1)
theorem ClsI.next {i : Nat} (h : ClsI rs wl E F i) (hi : i < rs.length) (hr : ClsR wl E F rs[i] (wl.length + 1)) : ClsI rs wl E F (i + 1) := by
  intro j hj hji
  by_cases e : j = i
  · subst e; exact hr
  · exact h j hj (by omega)
theorem ClsI.cls (h : ClsI rs wl E F rs.length) : Cls rs wl E F := by
  refine ⟨fun r hr p q hp hq hpath => ?_, fun r hr p hp hb => ?_⟩
  · obtain ⟨j, hj, rfl⟩ := List.mem_iff_getElem.1 hr
    exact (h j hj hj p (by omega)).1 q hq hpath
  · obtain ⟨j, hj, rfl⟩ := List.mem_iff_getElem.1 hr
    exact (h j hj hj p (by omega)).2 hb
theorem ClsR.next {r : Rule} {p : Nat} (h : ClsR wl E F r p) (h1 : ∀ q, q ≤ wl.length → Path wl E r.right p q → E r.left.toNat p q = true) (h2 : BegP wl E F r.right p → F r.left.toNat p = true) : ClsR wl E F r (p + 1) := by
  intro p' hp'
  by_cases e : p' = p
  · subst e; exact ⟨h1, h2⟩
  · exact h p' (by omega)
end
end Go.Proofs.Ythpjjlmgdalpaaa
