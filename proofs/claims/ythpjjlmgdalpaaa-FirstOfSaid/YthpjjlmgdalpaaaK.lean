/- Words for memory: slices of one-cell elements that read as a list, a block that is known whole, a grammar. -/
import Derived.WalkKit
import Derived.WalkLawsBesides
import Derived.WalkSpells
import Derived.Laws.OwnMore
import Derived.Deep.AppendLies
import Derived.Deep.Draws
import Derived.Deep.QuietTactic
import Derived.BigQuiet
import Derived.Outline
namespace Go.Proofs.Ythpjjlmgdalpaaa
open Go.RowKit

theorem calls_id {P : Program} {f : FuncId} {args : Array Value} {w : World} {Q : Ending → World → Prop} (h : Calls P f args w Q) : Calls P f args w Q := h
theorem hide {p : Prop} (h : p) : Hid p := h
theorem ret_b {a b : Bool} (h : a = b) : Ending.returned (.bool a) = .returned (.bool b) := by rw [h]
theorem ret_i {k : IntKind} {a b : Int} (h : a = b) : Ending.returned (.int k a) = .returned (.int k b) := by rw [h]
theorem ret_s {a b : ByteArray} (h : a = b) : Ending.returned (.string a) = .returned (.string b) := by rw [h]
theorem bdrew {B : Nat} {a w : World} (h : Below B a w) (n : Nat) : Below B a (w.drewN n) := ⟨h.os, h.tape, h.output, h.size, h.block⟩
theorem below_pre {B : Nat} {a b w : World} (h : Below B a w) (ho : b.os = a.os) (ht : b.tape = a.tape) (hu : b.output = a.output) (hs : b.heap = a.heap) : Below B b w := ⟨h.os.trans ho.symm, h.tape.trans ht.symm, h.output.trans hu.symm, by rw [hs]; exact h.size, by rw [hs]; exact h.block⟩
theorem ba_ext {a b : ByteArray} (h : a.data.toList = b.data.toList) : a = b := by
  apply ByteArray.ext; apply Array.ext'; exact h
theorem quiet_all {P : Program} {f : FuncId} {args : Array Value} {v : Value} (h : ∀ W : World, Calls P f args W fun e w' => e = .returned v ∧ ∃ m, w' = W.drewN m) (w : World) (n : Nat) :
    Calls P f args (w.drewN n) fun e w'' => e = .returned v ∧ ∃ m, w'' = w.drewN m := Calls.quiet_of (h _)

/-! ### a block that is known whole -/
def Blk (w : World) (g : Nat) (t : TypeId) (cs : Array Value) : Prop := w.heap[g]? = some (.cells cs t (0, 0))
section
variable {w w' : World} {g : Nat} {t : TypeId} {cs : Array Value}
theorem Blk.lt (h : Blk w g t cs) : g < w.heap.size := by
  rcases Nat.lt_or_ge g w.heap.size with hlt | hge
  · exact hlt
  · unfold Blk at h; rw [Array.getElem?_eq_none hge] at h; cases h
theorem Blk.cell (h : Blk w g t cs) (i : Nat) : w.cell? ⟨g, i, none⟩ = cs[i]? := cell_of_row w g i cs t (0, 0) h
theorem Blk.frozen (h : Blk w g t cs) (i : Nat) : w.frozen? ⟨g, i, none⟩ = false := by
  unfold Blk at h
  simp [World.frozen?, h]
theorem Blk.new (w : World) (t : TypeId) (cs : Array Value) : Blk (w.alloc (.cells cs t)) w.heap.size t cs := heap_alloc_new w _
theorem Blk.drewN (h : Blk w g t cs) (n : Nat) : Blk (w.drewN n) g t cs := h
theorem Blk.alloc (h : Blk w g t cs) (o : Obj) : Blk (w.alloc o) g t cs := (Below.heap_alloc w o g h.lt).trans h
theorem Blk.set_ (h : Blk w g t cs) (i : Nat) (u : Value) : Blk (w.setCell ⟨g, i, none⟩ u) g t (cs.setIfInBounds i u) := by
  unfold Blk at h ⊢
  simp [World.setCell, Array.getElem?_modify, h]
theorem Blk.far (h : Blk w g t cs) {p : Addr} (hp : g ≠ p.block) (u : Value) : Blk (w.setCell p u) g t cs := (Below.heap_setCell w p u g hp).trans h
theorem Blk.below {B : Nat} (h : Blk w g t cs) (hb : Below B w w') (hg : g < B) : Blk w' g t cs := (hb.block g hg).trans h
theorem Blk.grown {row : Option Nat} (h : Blk w g t cs) (hb : w.grownBy w' row) (hg : some g ≠ row) : Blk w' g t cs := (hb.block g h.lt hg).trans h
end
theorem boxed {w w1 : World} {cs : Array Value} {T : TypeId} (hb : Below (w.heap.size + 1) (w.alloc (.cells cs T)) w1) : ∀ i, w1.cell? ⟨w.heap.size, i, none⟩ = cs[i]? :=
  fun i => ((Blk.new w T cs).below hb (by omega)).cell i

/-! ### a slice of one-cell elements (or of structs of such) that reads as a list of cells -/
/-- The cells xs lie behind A, below block B; nothing is said of A where xs is empty. -/
def SlAt (w : World) (B : Nat) (A : Option Addr) (xs : List Value) : Prop :=
  xs = [] ∨ ∃ b off, A = some ⟨b, off, none⟩ ∧ b < B ∧ ∀ j u, xs[j]? = some u → w.cell? ⟨b, off + j, none⟩ = some u
section
variable {w w' : World} {B B' : Nat} {A : Option Addr} {xs : List Value}
theorem SlAt.nil : SlAt w B A [] := .inl rfl
theorem SlAt.at_ {k : Nat} (h : SlAt w B A xs) (hk : k < xs.length) : ∃ b off, A = some ⟨b, off, none⟩ ∧ b < B ∧ ∀ j u, xs[j]? = some u → w.cell? ⟨b, off + j, none⟩ = some u := by
  rcases h with rfl | h
  · simp at hk
  · exact h
theorem SlAt.keep (h : SlAt w B A xs) (hk : ∀ p : Addr, p.block < B → w'.cell? p = w.cell? p) : SlAt w' B A xs := by
  rcases h with rfl | ⟨b, off, h1, h2, h3⟩
  · exact .inl rfl
  · exact .inr ⟨b, off, h1, h2, fun j u hu => (hk _ h2).trans (h3 j u hu)⟩
theorem SlAt.more (h : SlAt w B A xs) (hB : B ≤ B') : SlAt w B' A xs := by
  rcases h with rfl | ⟨b, off, h1, h2, h3⟩
  · exact .inl rfl
  · exact .inr ⟨b, off, h1, by omega, h3⟩
theorem SlAt.below (h : SlAt w B A xs) (hb : Below B w w') : SlAt w' B A xs := h.keep fun _ hp => hb.cell hp
theorem SlAt.drewN (h : SlAt w B A xs) (n : Nat) : SlAt (w.drewN n) B A xs := h
theorem SlAt.alloc (h : SlAt w B A xs) (hB : B ≤ w.heap.size) (o : Obj) : SlAt (w.alloc o) B A xs := h.keep fun p hp => World.cell?_alloc_lt w o p (by omega)
theorem SlAt.drop (h : SlAt w B A xs) (k cap : Nat) (hk : k ≤ xs.length) (hc : xs.length ≤ cap) : SlAt w B (if cap = k then A else A.map (·.add k)) (xs.drop k) := by
  by_cases e : xs.drop k = []
  · rw [e]; exact .inl rfl
  · have hlt : k < xs.length := by
      rcases Nat.lt_or_ge k xs.length with h1 | h1
      · exact h1
      · exact absurd (List.drop_of_length_le h1) e
    obtain ⟨b, off, rfl, hb, hcell⟩ := h.at_ hlt
    rw [if_neg (by omega)]
    refine .inr ⟨b, off + k, ?_, hb, fun j u hu => ?_⟩
    · simp [Addr.add]
    · rw [Nat.add_assoc]
      exact hcell _ u (by rw [← hu, List.getElem?_drop])
theorem SlAt.take (h : SlAt w B A xs) (k : Nat) : SlAt w B A (xs.take k) := by
  rcases h with rfl | ⟨b, off, h1, h2, h3⟩
  · left; simp
  · refine .inr ⟨b, off, h1, h2, fun j u hu => h3 j u ?_⟩
    rw [List.getElem?_take] at hu
    split at hu
    · exact hu
    · cases hu
theorem SlAt.of_own {base e : Nat} {n c size : Nat} (h : w.ownsRow base e size (.slice A n c) n xs) : SlAt w w.heap.size A xs := by
  by_cases hn : 0 < n
  · obtain ⟨g, cap, hv, _, hlt⟩ := h.form hn
    have hA : A = some ⟨g, 0, none⟩ := by injection hv
    subst hA
    refine .inr ⟨g, 0, rfl, hlt, fun j u hu => ?_⟩
    have := h.cells (g := g) rfl j u hu
    by_cases hj : j = 0
    · subst hj; simpa [Addr.add] using this
    · simpa [Addr.add, hj] using this
  · left
    have h0 : n = 0 := by omega
    subst h0
    exact List.eq_nil_of_length_eq_zero (by simpa using h.1)
end

abbrev ints (l : List Int) : List Value := l.map (Value.int .i64)
abbrev strs (l : List ByteArray) : List Value := l.map Value.string
theorem ints_at (l : List Int) (k : Nat) (h : k < l.length) : (ints l)[k]? = some (.int .i64 l[k]) := by
  rw [List.getElem?_map, List.getElem?_eq_getElem h]; rfl
theorem strs_at (l : List ByteArray) (k : Nat) (h : k < l.length) : (strs l)[k]? = some (.string l[k]) := by
  rw [List.getElem?_map, List.getElem?_eq_getElem h]; rfl

/-! ### a grammar -/
structure Rule where
  left : Int
  right : List Int
structure G where
  names : List ByteArray
  terms : List ByteArray
  rules : List Rule
/-- The addresses and capacities of a grammar's three slices. -/
structure GV where
  An : Option Addr
  cn : Nat
  At : Option Addr
  ct : Nat
  Ar : Option Addr
  cr : Nat

/-- Rules in memory: two cells each, the right side a slice that reads as its symbols. -/
def RulesAt (w : World) (B : Nat) (A : Option Addr) (rs : List Rule) : Prop :=
  rs = [] ∨ ∃ b off, A = some ⟨b, off, none⟩ ∧ b < B ∧ ∀ k (h : k < rs.length), ∃ C c, w.cell? ⟨b, off + k * 2, none⟩ = some (.int .i64 rs[k].left) ∧ w.cell? ⟨b, off + k * 2 + 1, none⟩ = some (.slice C rs[k].right.length c) ∧ rs[k].right.length ≤ c ∧ SlAt w B C (ints rs[k].right)
structure GAt (w : World) (B : Nat) (v : GV) (g : G) : Prop where
  n : SlAt w B v.An (strs g.names)
  t : SlAt w B v.At (strs g.terms)
  r : RulesAt w B v.Ar g.rules
  hn : g.names.length ≤ v.cn ∧ v.cn ≤ 9223372036854775807
  ht : g.terms.length ≤ v.ct ∧ v.ct ≤ 9223372036854775807
  hr : g.rules.length ≤ v.cr ∧ v.cr ≤ 9223372036854775807
  sn : ∀ s ∈ g.names, s.size ≤ 9223372036854775807
  st : ∀ s ∈ g.terms, s.size ≤ 9223372036854775807
  sr : ∀ r ∈ g.rules, r.right.length ≤ 9223372036854775807
section
variable {w w' : World} {B B' : Nat} {A : Option Addr} {rs : List Rule} {v : GV} {g : G}
theorem RulesAt.keep (h : RulesAt w B A rs) (hk : ∀ p : Addr, p.block < B → w'.cell? p = w.cell? p) : RulesAt w' B A rs := by
  rcases h with rfl | ⟨b, off, h1, h2, h3⟩
  · exact .inl rfl
  · refine .inr ⟨b, off, h1, h2, fun k hlt => ?_⟩
    obtain ⟨C, c, c1, c2, c3, c4⟩ := h3 k hlt
    exact ⟨C, c, (hk _ h2).trans c1, (hk _ h2).trans c2, c3, c4.keep hk⟩
theorem RulesAt.more (h : RulesAt w B A rs) (hB : B ≤ B') : RulesAt w B' A rs := by
  rcases h with rfl | ⟨b, off, h1, h2, h3⟩
  · exact .inl rfl
  · refine .inr ⟨b, off, h1, by omega, fun k hlt => ?_⟩
    obtain ⟨C, c, c1, c2, c3, c4⟩ := h3 k hlt
    exact ⟨C, c, c1, c2, c3, c4.more hB⟩
theorem RulesAt.at_ (h : RulesAt w B A rs) {k : Nat} (hk : k < rs.length) : ∃ b off, A = some ⟨b, off, none⟩ ∧ b < B ∧ ∃ C c, w.cell? ⟨b, off + k * 2, none⟩ = some (.int .i64 rs[k].left) ∧ w.cell? ⟨b, off + k * 2 + 1, none⟩ = some (.slice C rs[k].right.length c) ∧ rs[k].right.length ≤ c ∧ SlAt w B C (ints rs[k].right) := by
  rcases h with rfl | ⟨b, off, h1, h2, h3⟩
  · simp at hk
  · exact ⟨b, off, h1, h2, h3 k hk⟩
theorem GAt.keep (h : GAt w B v g) (hk : ∀ p : Addr, p.block < B → w'.cell? p = w.cell? p) : GAt w' B v g := ⟨h.n.keep hk, h.t.keep hk, h.r.keep hk, h.hn, h.ht, h.hr, h.sn, h.st, h.sr⟩
theorem GAt.more (h : GAt w B v g) (hB : B ≤ B') : GAt w B' v g := ⟨h.n.more hB, h.t.more hB, h.r.more hB, h.hn, h.ht, h.hr, h.sn, h.st, h.sr⟩
theorem GAt.below (h : GAt w B v g) (hb : Below B w w') : GAt w' B v g := h.keep fun _ hp => hb.cell hp
theorem GAt.drewN (h : GAt w B v g) (n : Nat) : GAt (w.drewN n) B v g := h.keep fun _ _ => rfl
theorem GAt.alloc (h : GAt w B v g) (hB : B ≤ w.heap.size) (o : Obj) : GAt (w.alloc o) B v g := h.keep fun p hp => World.cell?_alloc_lt w o p (by omega)
end
end Go.Proofs.Ythpjjlmgdalpaaa
