/- The kinds' words: the map of ask and the reference's list. -/
import Derived.Test.YtojbkdcncflbkaaDoorW3
import Derived.Maps.OwnSet
import Derived.Maps.RangeWalk
namespace Go.Proofs.YtojbkdcncflbkaaDoor
open Go.RowKit Go.Maps Go.WideMaps

/-- 'insert' into a map literal, at the operation. -/
theorem wpList_insert_own {H : Type} {P : Program} (w : World) {ops : Array Oper} {rest : List Oper} {o : Oper} {a : Act} {Q : Exit → Act → World → Prop}
    (hg : o.guard = none) (m x v : Operand) (t : TypeId) (hop : o.op = Op.insert t m x v)
    (k e : TypeId) (K : Keyed P k) (ht : P.underlying t = some (.map k e)) (R : Value → Option (DataW H × List MemPlace)) (b n : Nat) (D : DataW H)
    (hm : a.eval m = .map (some b)) (hown : w.ownsMap P k R b n D) (hn : n < maxLen) (key val : Value) (kl : Lit) (hx : a.eval x = key) (hv : a.eval v = val) (hkey : keyOf P k key = some kl)
    (d : DataW H) (ps : List MemPlace) (hval : R val = some (d, ps))
    (hK : ∀ w', w'.ownsMap P k R b (n + 1) (D.put kl d) → w.grownBy w' (some b) → wpList P ops Q rest (a.put o.dst undef) w') :
    wpList P ops Q (o :: rest) a w := by
  refine wpList_plain hg fun K' hK' => ?_
  obtain ⟨w', hrun, r1, r2⟩ := hown.update K ht hn hkey hval
  unfold Oper.wp
  simp [execOp, hop, hm, hx, hv, hrun, Result.andThen]
  exact hK' _ _ (hK w' r1 r2)

theorem law9 : Keyed Tryd.prog 9 := string_keyed Tryd.underlying9
theorem zero3 (w : World) : (zeroValue 3).run Tryd.prog w = .ok (.int .i64 0) w := by kernel_rfl

def wl : List (List UInt8) := [[99, 111, 109, 112, 105, 108, 101], [108, 111, 111, 107, 117, 112], [115, 97, 118, 101], [98, 101, 103, 105, 110], [104, 111, 108, 100], [114, 101, 108, 101, 97, 115, 101], [102, 105, 110, 105, 115, 104], [99, 97, 110, 99, 101, 108], [99, 111, 108, 108, 101, 99, 116], [116, 105, 100, 121], [114, 101, 99, 111, 118, 101, 114], [116, 97, 98, 108, 101], [109, 97, 99, 104, 105, 110, 101, 115], [115, 116, 97, 116, 101, 115], [108, 105, 118, 101], [112, 105, 110, 115], [102, 108, 121, 105, 110, 103], [108, 101, 97, 115, 116]]
def i64D (n : Int) : DataW Unit := .lit (.int .i64 n)
def wordsD : DataW Unit := (wl.zipIdx 1).foldl (fun D p => D.put (.string p.1) (i64D p.2)) (.map [])

/-- The map under way: the first k words are in. -/
def WM (w0 w : World) (k : Nat) : Prop :=
  w.ownsMap Tryd.prog 9 (plainElem Tryd.prog 3) w0.heap.size k (((wl.take k).zipIdx 1).foldl (fun D p => D.put (.string p.1) (i64D p.2)) (.map [])) ∧ Below w0.heap.size w0 w

theorem WM_start (w : World) : WM w (w.alloc (.map #[] 0)) 0 := ⟨World.ownsMap_made _ _ _ _, (Below.refl _ _).alloc (Nat.le_refl _) _⟩

theorem wpList_insert_WM {w0 : World} (w : World) {ops : Array Oper} {rest : List Oper} {o : Oper} {a : Act} {Q : Exit → Act → World → Prop}
    (hg : o.guard = none) (m x v : Operand) (hop : o.op = Op.insert 42 m x v) (k : Nat) (s : List UInt8)
    (hm : a.eval m = .map (some w0.heap.size)) (h : WM w0 w k) (hk : k < 18) (hx : a.eval x = .string ⟨s.toArray⟩) (hs : wl[k]? = some s) (c : Int) (hv : a.eval v = .int .i64 c) (hc : c = (k : Int) + 1)
    (hK : ∀ w', WM w0 w' (k + 1) → wpList Tryd.prog ops Q rest (a.put o.dst undef) w') :
    wpList Tryd.prog ops Q (o :: rest) a w := by
  subst hc
  obtain ⟨hown, hb⟩ := h
  have hlen : s.length ≤ 8 := by
    have : ∀ t ∈ wl, t.length ≤ 8 := by decide
    exact this s (List.mem_of_getElem? hs)
  refine wpList_insert_own w hg m x v 42 hop 9 3 law9 Tryd.underlying42 _ _ k _ hm hown (by unfold maxLen; omega) _ _ (.string s) hx hv (keyOf_string_mk Tryd.underlying9 (by show s.toArray.size ≤ maxLen; unfold maxLen; simp; omega))
    (i64D (k + 1)) [] (plainElem_int Tryd.underlying3 (WalkArith.wf_i64 (by omega))) fun w' r1 r2 => hK w' ⟨?_, hb.grown r2 hb.size (fun j hj => by cases hj; exact Nat.le_refl _)⟩
  have hl : k < wl.length := by have : wl.length = 18 := rfl; omega
  have e : wl.take (k + 1) = wl.take k ++ [s] := by
    rw [List.take_succ_eq_append_getElem hl]
    rw [List.getElem?_eq_getElem hl] at hs
    injection hs with hs
    rw [hs]
  rw [e, List.zipIdx_append, List.foldl_append]
  have e2 : (wl.take k).length = k := by simp; omega
  rw [e2]
  simpa [i64D, Int.add_comm, Nat.add_comm] using r1

theorem words_any (w : World) : Calls Tryd.prog 19 #[] w fun e w' => e = .returned (.map (some w.heap.size)) ∧ WM w w' 18 := by
  have hmm := @run_makeMap Tryd.prog
  have h0 := WM_start w
  go_enter Tryd.func19, Tryd.ntmps19
  go_wp2_with (refine wpList_insert_WM (w0 := w) _ rfl _ _ _ rfl _ _ rfl (by assumption) (by omega) rfl rfl _ rfl rfl ?_; intro w' h')
  go_ret
  exact ⟨rfl, by assumption⟩


abbrev WL : List (List UInt8 × Int) := (wl.zipIdx 1).map fun p => (p.1, (p.2 : Int))
def kindOf (l : List UInt8) : Int := match WL.reverse.find? (fun p => p.1 == l) with | some p => p.2 | none => 0
def wordOf (k : Int) : List UInt8 := match WL.find? (fun p => p.2 == k) with | some p => p.1 | none => []

def putAll (L : List (List UInt8 × Int)) (D : DataW Unit) : DataW Unit := L.foldl (fun D p => D.put (.string p.1) (i64D p.2)) D
theorem putAll_isMap : ∀ (L : List (List UInt8 × Int)) (D : DataW Unit), IsMap D → IsMap (putAll L D)
  | [], _, h => h
  | _ :: L, _, h => putAll_isMap L _ (h.put _ _)
theorem keyLit (l : List UInt8) : WideAt.IsKeyLit (.string l) := by trivial
theorem atKey_putAll (l : List UInt8) (z : DataW Unit) : ∀ (L : List (List UInt8 × Int)) (D : DataW Unit), IsMap D →
    (putAll L D).atKey (.string l) z = match L.reverse.find? (fun p => p.1 == l) with | some p => i64D p.2 | none => D.atKey (.string l) z
  | [], _, _ => rfl
  | q :: L, D, h => by
    show (putAll L (D.put (.string q.1) (i64D q.2))).atKey _ z = _
    rw [atKey_putAll l z L _ (h.put _ _), List.reverse_cons, List.find?_append]
    cases List.find? (fun p => p.1 == l) L.reverse with
    | some p => rfl
    | none =>
      by_cases e : q.1 = l
      · subst e
        simp [atKey_put_same h (keyLit _)]
      · have : (q.1 == l) = false := by simpa using e
        simp [this, atKey_put_other (D := D) (k := .string q.1) (k' := .string l) (by intro he; injection he with he; exact e he.symm)]
theorem has_putAll (l : List UInt8) : ∀ (L : List (List UInt8 × Int)) (D : DataW Unit), IsMap D → Maps.has (putAll L D) (.string l) = (L.any (fun p => p.1 == l) || Maps.has D (.string l))
  | [], _, _ => by simp [putAll]
  | q :: L, D, h => by
    show Maps.has (putAll L (D.put (.string q.1) (i64D q.2))) _ = _
    rw [has_putAll l L _ (h.put _ _)]
    by_cases e : q.1 = l
    · subst e
      simp [has_put_same h (keyLit _)]
    · have : (q.1 == l) = false := by simpa using e
      simp [this, has_put_other (D := D) (k := .string q.1) (k' := .string l) (by intro he; injection he with he; exact e he.symm)]

theorem words_D : ((wl.take 18).zipIdx 1).foldl (fun D p => D.put (.string p.1) (i64D p.2)) (.map []) = putAll WL (.map []) := by
  rw [putAll, List.foldl_map]; rfl

theorem words_at (l : List UInt8) : (putAll WL (.map [])).atKey (.string l) (i64D 0) = i64D (kindOf l) := by
  rw [atKey_putAll l _ WL _ isMap_empty]
  unfold kindOf
  split <;> rfl
theorem words_has (l : List UInt8) (h : Maps.has (putAll WL (.map [])) (.string l) = true) : ∃ p ∈ WL, p.1 = l ∧ ∀ z, (putAll WL (.map [])).atKey (.string l) z = i64D p.2 := by
  rw [has_putAll l WL _ isMap_empty] at h
  have h0 : Maps.has (.map [] : DataW Unit) (.string l) = false := rfl
  rw [h0, Bool.or_false, List.any_eq_true] at h
  obtain ⟨p, hp, he⟩ := h
  cases hf : WL.reverse.find? (fun p => p.1 == l) with
  | none =>
    rw [List.find?_eq_none] at hf
    exact absurd he (hf p (by simpa using hp))
  | some q =>
    refine ⟨q, by simpa using List.mem_of_find?_eq_some hf, by simpa using List.find?_some hf, fun z => ?_⟩
    rw [atKey_putAll l z WL _ isMap_empty, hf]
theorem words_hasWL (p : List UInt8 × Int) (h : p ∈ WL) : Maps.has (putAll WL (.map [])) (.string p.1) = true := by
  rw [has_putAll p.1 WL _ isMap_empty, Bool.or_eq_true, List.any_eq_true]
  exact .inl ⟨p, h, by simp⟩
theorem wordOf_mem : ∀ p ∈ WL, wordOf p.2 = p.1 := by decide
theorem wordOf_none (k : Int) (h : ∀ p ∈ WL, p.2 ≠ k) : wordOf k = [] := by
  unfold wordOf
  have : WL.find? (fun p => p.2 == k) = none := by rw [List.find?_eq_none]; intro p hp; simpa using h p hp
  rw [this]
theorem word_key (k : Int) (l : List UInt8) (h : Maps.has (putAll WL (.map [])) (.string l) = true) (hz : ∀ z, (putAll WL (.map [])).atKey (.string l) z = i64D k) : wordOf k = l := by
  obtain ⟨p, hp, rfl, hat⟩ := words_has l h
  have := (hat .nil).symm.trans (hz .nil)
  have e : p.2 = k := by injection this with e; injection e
  rw [← e, wordOf_mem p hp]

/-- Nothing that is no longer to come has the kind. -/
def Sought (k : Int) (left : Lit → Bool) : Prop := ∀ p ∈ WL, left (.string p.1) = false → p.2 ≠ k

theorem sought_start (k : Int) : Sought k (Maps.has (putAll WL (.map []))) := fun p hp hl => by rw [words_hasWL p hp] at hl; cases hl
theorem keyOf_string_inv {key : Value} {kl : Lit} (h : keyOf Tryd.prog 9 key = some kl) : ∃ s : ByteArray, key = .string s ∧ kl = .string s.data.toList := by
  cases key <;> simp [keyOf, Tryd.underlying9, mapKey] at h
  exact ⟨_, rfl, h.2.symm⟩
theorem sought_step {k : Int} {left : Lit → Bool} {c : Int} {l : List UInt8} (h : Sought k left) (hat : ∀ z, (putAll WL (.map [])).atKey (.string l) z = i64D c) (hh : Maps.has (putAll WL (.map [])) (.string l) = true) (hne : c ≠ k) :
    Sought k (fun z => left z && !z.sameKey (.string l)) := by
  intro p hp hl
  rw [Bool.and_eq_false_iff] at hl
  rcases hl with hl | hl
  · exact h p hp hl
  · by_cases e : p.1 = l
    · subst e
      obtain ⟨q, hq, he, hz⟩ := words_has p.1 hh
      have := (hat .nil).symm.trans (hz .nil)
      have e2 : c = q.2 := by injection this with e; injection e
      have : ∀ p ∈ WL, ∀ q ∈ WL, q.1 = p.1 → q.2 = p.2 := by decide
      rw [← this p hp q hq he, ← e2]; exact hne
    · have hs : (Lit.string p.1).sameKey (.string l) = false := sameKey_ne (by intro he; injection he with he; exact e he)
      rw [hs] at hl; cases hl
theorem sought_end {k : Int} {left : Lit → Bool} (h : Sought k left) (hl : ∀ kl, left kl = false) : wordOf k = [] := wordOf_none k fun p hp => h p hp (hl _)

theorem word_any (k : Int) (w : World) : Calls Tryd.prog 9 #[.int .i64 k] w fun e w' => e = .returned (.string ⟨(wordOf k).toArray⟩) ∧ Below w.heap.size w w' := by
  go_enter Tryd.func9, Tryd.ntmps9
  go_wp2_with (first | (go_at_call 19; refine (words_any _).mono ?_; rintro e w1 ⟨rfl, hwm⟩) | (at_range; refine wpList_range_own _ rfl _ 42 rfl 9 3 law9 Tryd.underlying42 _ w.heap.size 18 _ rfl hwm.1 ?_; intro w0 hrg0 hg0 hs0))
  go_frame
  rw [words_D] at hrg0
  have hb0 : Below w.heap.size w w0 := hwm.2.grown hg0 hwm.2.size (by simp)
  have hwl : w.heap.size ≤ w1.heap.size := hwm.2.size
  clear hwm hg0 hs0
  go_loopw [3] (fun _ wr => ∃ left cnt, wr.ranges Tryd.prog 9 (plainElem Tryd.prog 3) w.heap.size w1.heap.size 18 (putAll WL (.map [])) left cnt ∧ Sought k left ∧ Below w.heap.size w wr) (fun _ wr => wr.rangeLeft w.heap.size w1.heap.size)
  case atStart => exact ⟨_, _, hrg0, sought_start k, hb0⟩
  case round =>
    obtain ⟨left, cnt, hrg, hso, hb⟩ := hrel
    have Hso := hide hso; clear hso
    go_wp2_with (at_next; refine wpList_next_ranges _ rfl _ rfl 9 law9 _ (fun s : ByteArray => .string s) (fun c : Int => .int .i64 c) (fun key kl h => let ⟨s, e, _⟩ := keyOf_string_inv h; ⟨s, e⟩) (fun v y h => let ⟨a, e, _⟩ := plainElem_int_inv Tryd.underlying3 h; ⟨a, e⟩) w.heap.size w1.heap.size 18 _ _ _ rfl hrg ?_ ?_)
    · intro hc0 hl0
      have hend := hide (sought_end Hso.out hl0)
      clear hl0 hc0
      go_wp2
      go_ret
      exact ⟨ret_s (by rw [hend.out]), hb⟩
    · intro x c kl y1 y2 wx cntx hkey hlx hval hat hrg1 hlt hg1 hs1 hen
      obtain ⟨s, e1, e2⟩ := keyOf_string_inv hkey
      obtain rfl : s = x := by injection e1 with e1; exact e1.symm
      subst e2
      obtain ⟨a', e3, e4, _⟩ := plainElem_int_inv Tryd.underlying3 hval
      obtain rfl : c = a' := by injection e3
      simp only [Prod.mk.injEq] at e4
      obtain ⟨rfl, rfl⟩ := e4
      have hb1 : Below w.heap.size w wx := hb.grown hg1 hb.size (fun j hj => by cases hj; exact hwl)
      have Hat := hide hat
      clear hat hkey hval hlx hg1 hs1 e1 e3
      by_cases hck : c = k
      · subst hck
        have hr := hide (word_key c s.data.toList (has_true_of_atKey Hat.out) Hat.out)
        go_wp2
        go_ret
        exact ⟨ret_s (by rw [hr.out]), hb1⟩
      · have hne : (c == k) = false := by simpa using hck
        have hst := sought_step Hso.out Hat.out (has_true_of_atKey Hat.out) hck
        have Hst := hide hst
        clear hst hck
        go_wp2
        go_roundw
        case rel => exact ⟨_, _, hrg1, Hst.out, hb1⟩
        case measure => rw [hrg1.left_eq, hrg.left_eq]; omega

end Go.Proofs.YtojbkdcncflbkaaDoor
