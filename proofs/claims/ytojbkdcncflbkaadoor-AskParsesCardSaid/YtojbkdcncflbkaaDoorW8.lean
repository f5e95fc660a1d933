/- ask.Parse. -/
import Derived.Test.YtojbkdcncflbkaaDoorM
import Derived.Maps.OwnOps
namespace Go.Proofs.YtojbkdcncflbkaaDoor
open Go.RowKit Go.Maps Go.WideMaps

theorem index_sp (l : List UInt8) : Lib.index l [32] = if (cutSp l).2.2 then ((cutSp l).1.length : Int) else -1 := by
  induction l with
  | nil => rfl
  | cons c r ih =>
    unfold Lib.index
    by_cases hc : c.toNat = 32
    · have : c = 32 := by apply UInt8.toNat_inj.1; rw [hc]; rfl
      subst this
      simp [cutSp, List.isPrefixOf]
    · have hne : ((32 : UInt8) == c) = false := by
        rw [beq_eq_false_iff_ne]; intro e; subst e; exact hc rfl
      simp only [List.isPrefixOf, hne, Bool.false_and, cutSp, if_neg hc]
      rw [ih]
      cases (cutSp r).2.2 <;> simp
      try omega
theorem cut_len (l : List UInt8) : (cutSp l).2.2 = true → l = (cutSp l).1 ++ 32 :: (cutSp l).2.1 := by
  induction l with
  | nil => intro h; cases h
  | cons c r ih =>
    by_cases hc : c.toNat = 32
    · have : c = 32 := by apply UInt8.toNat_inj.1; rw [hc]; rfl
      subst this
      intro _; simp [cutSp]
    · intro h
      simp only [cutSp, if_neg hc] at h ⊢
      rw [List.cons_append, ← ih h]
theorem cut_false (l : List UInt8) : (cutSp l).2.2 = false → cutSp l = (l, [], false) := by
  induction l with
  | nil => intro h; rfl
  | cons c r ih =>
    by_cases hc : c.toNat = 32
    · intro h; simp [cutSp, hc] at h
    · intro h
      simp only [cutSp, if_neg hc] at h ⊢
      rw [ih h]
theorem cut_eq (l : List UInt8) : Lib.cut l [32] = cutSp l := by
  unfold Lib.cut
  rw [index_sp]
  cases h : (cutSp l).2.2 with
  | false => simp [cut_false l h]
  | true =>
    have hl := cut_len l h
    have e1 : l.take (cutSp l).1.length = (cutSp l).1 := by
      conv => lhs; arg 2; rw [hl]
      rw [List.take_left]
    have e2 : l.drop ((cutSp l).1.length + 1) = (cutSp l).2.1 := by
      conv => lhs; arg 2; rw [hl]
      rw [List.drop_append, List.drop_of_length_le (by omega)]; simp
    simp only [if_true]
    rw [if_pos (by omega)]
    simp only [Int.toNat_natCast, List.length_cons, List.length_nil, Nat.zero_add]
    rw [e1, e2, ← h]

theorem cut20 (s : ByteArray) (w : World) (hst : St w) (hs : s.size ≤ 100000) : Calls Tryd.prog 20 #[.string s, .string ⟨#[32]⟩] w fun e w' =>
    e = .returned (.tuple #[.string ⟨(cutSp s.data.toList).1.toArray⟩, .string ⟨(cutSp s.data.toList).2.1.toArray⟩, .bool (cutSp s.data.toList).2.2]) ∧ Below w.heap.size w w' := by
  obtain ⟨m, hm⟩ := hst.hm
  refine (Tryd.strings_Cut s ⟨#[32]⟩ m w (by omega) hm).mono fun e w' ⟨he, n, hw⟩ => ⟨?_, by rw [hw]; exact bdrew (Below.refl _ _) n⟩
  rw [he, cut_eq]

def AtoiPost (l : List UInt8) (w : World) (e : Ending) (w' : World) : Prop := ∃ x, e = .returned (.tuple #[.int .i64 (atoiV l), x]) ∧ Below w.heap.size w w'
theorem atoi21 (s : ByteArray) (w : World) (hst : St w) (hs : s.size ≤ 100000) : Calls Tryd.prog 21 #[.string s] w (AtoiPost s.data.toList w) := by
  rcases h : Lib.atoiAll s.data.toList with v | _ | _
  · skip
    have ha : atoiV s.data.toList = v := by rw [atoiV, h]
    refine (Tryd.strconv_Atoi_ok s (by omega) v h w).mono ?_
    rintro e w' ⟨rfl, hw⟩
    refine ⟨_, by rw [ha], ?_⟩
    rcases hw with rfl | ⟨t, rfl⟩
    · exact Below.refl _ _
    · exact Lib.bytesWorld_below _ _ _
  · skip
    have ha : atoiV s.data.toList = 0 := by rw [atoiV, h]
    obtain ⟨ev, h1, h2⟩ := hst.hs
    refine (Any.strconv_Atoi_syntax Tryd.laysC172 s (by omega) h ev w h1 h2).mono ?_
    rintro e w' ⟨N, rfl, _, _, hb⟩
    exact ⟨_, by rw [ha], hb⟩
  · skip
    have ha : atoiV s.data.toList = Lib.atoiSat s.data.toList := by rw [atoiV, h]
    obtain ⟨ev, h1, h2⟩ := hst.hr
    refine (Any.strconv_Atoi_range Tryd.laysC172 s (by omega) h ev w h1 h2).mono ?_
    rintro e w' ⟨N, rfl, _, _, hb⟩
    exact ⟨_, by rw [ha], hb⟩

theorem cut_size (l : List UInt8) : (cutSp l).1.length ≤ l.length ∧ (cutSp l).2.1.length ≤ l.length := by
  induction l with
  | nil => exact ⟨Nat.le_refl _, Nat.le_refl _⟩
  | cons c r ih =>
    by_cases hc : c.toNat = 32
    · simp [cutSp, hc]
    · simp only [cutSp, if_neg hc, List.length_cons]
      omega

def PPost (good : Bool) (l : List UInt8) (w : World) (e : Ending) (w' : World) : Prop :=
  ∃ t : ByteArray, e = .returned (.tuple #[.agg #[.int .i64 (if good then reqK l else 0), .int .i64 (if good then (reqA l).1 else 0), .int .i64 (if good then (reqA l).2.1 else 0), .string t], .bool good]) ∧
    t.data.toList = (if good then (reqA l).2.2 else []) ∧ Below w.heap.size w w'

def Blk (w : World) (g : Nat) (t : TypeId) (cs : Array Value) : Prop := w.heap[g]? = some (.cells cs t (0, 0))
theorem Blk.lt {w : World} {g : Nat} {t : TypeId} {cs : Array Value} (h : Blk w g t cs) : g < w.heap.size := by
  rcases Nat.lt_or_ge g w.heap.size with hlt | hge
  · exact hlt
  · unfold Blk at h; rw [Array.getElem?_eq_none hge] at h; cases h
theorem Blk.cell {w : World} {g : Nat} {t : TypeId} {cs : Array Value} (h : Blk w g t cs) (i : Nat) : w.cell? ⟨g, i, none⟩ = cs[i]? := cell_of_row w g i cs t (0, 0) h
theorem Blk.frozen {w : World} {g : Nat} {t : TypeId} {cs : Array Value} (h : Blk w g t cs) (i : Nat) : w.frozen? ⟨g, i, none⟩ = false := by
  unfold Blk at h
  simp [World.frozen?, h]
theorem Blk.new (w : World) (t : TypeId) (cs : Array Value) : Blk (w.alloc (.cells cs t)) w.heap.size t cs := heap_alloc_new w _
theorem Blk.alloc {w : World} {g : Nat} {t : TypeId} {cs : Array Value} (h : Blk w g t cs) (o : Obj) : Blk (w.alloc o) g t cs := (Below.heap_alloc w o g h.lt).trans h
theorem Blk.set_ {w : World} {g : Nat} {t : TypeId} {cs : Array Value} (h : Blk w g t cs) (i : Nat) (u : Value) : Blk (w.setCell ⟨g, i, none⟩ u) g t (cs.setIfInBounds i u) := by
  unfold Blk at h ⊢
  simp [World.setCell, Array.getElem?_modify, h]
theorem Blk.far {w : World} {g : Nat} {t : TypeId} {cs : Array Value} (h : Blk w g t cs) {p : Addr} (hp : g ≠ p.block) (u : Value) : Blk (w.setCell p u) g t cs := (Below.heap_setCell w p u g hp).trans h
theorem Blk.below {w w' : World} {g : Nat} {t : TypeId} {cs : Array Value} {B : Nat} (h : Blk w g t cs) (hb : Below B w w') (hg : g < B) : Blk w' g t cs := (hb.block g hg).trans h

theorem hasN_T {k : Int} (h : hasN k = true) : hasT k = false ∧ hasK k = false := by
  simp [hasN] at h
  rcases h with rfl | rfl <;> decide
theorem hasK_TN {k : Int} (h : hasK k = true) : hasT k = true ∧ hasN k = false := by
  refine ⟨by simp [hasT, h], ?_⟩
  cases hn : hasN k with
  | false => rfl
  | true => rw [(hasN_T hn).2] at h; cases h
abbrev zero23 : Array Value := #[Value.int IntKind.i64 0, Value.int IntKind.i64 0, Value.int IntKind.i64 0, Value.string ⟨#[]⟩]
abbrev req23 (k A B : Int) (T : ByteArray) : Array Value := #[.int .i64 k, .int .i64 A, .int .i64 B, .string T]

/-- What stands behind the call of Line: the two structs as they were, and whether the line is met. -/
def TailPost (l : List UInt8) (w : World) (rb : Nat) (cs : Array Value) (e : Ending) (w' : World) : Prop :=
  ∃ s : ByteArray, e = .returned (.tuple #[.string s, .bool (okI (reqK l) (reqA l).1 (reqA l).2.1 (reqA l).2.2)]) ∧ goodI l = (okI (reqK l) (reqA l).1 (reqA l).2.1 (reqA l).2.2 && s.toList == l) ∧ Below w.heap.size w w' ∧
    (∀ i, w'.cell? ⟨rb, i, none⟩ = cs[i]?) ∧ (∀ i, w'.frozen? ⟨w.heap.size, i, none⟩ = false) ∧ (∀ i, w'.cell? ⟨w.heap.size, i, none⟩ = zero23[i]?)

theorem parse_tail {w W : World} {l : List UInt8} {A B : Int} {T : ByteArray} {rb : Nat} (hst : St w) (HA : Hid (reqA l = (A, B, T.data.toList))) (bZ : Below w.heap.size w W) (rZ : Blk W rb 23 (req23 (reqK l) A B T)) (kZ : Blk W w.heap.size 23 zero23) (hT : T.size ≤ maxLen) :
    Calls Tryd.prog 6 #[.agg #[.int .i64 (reqK l), .int .i64 A, .int .i64 B, .string T]] W (TailPost l w rb (req23 (reqK l) A B T)) := by
  refine (line6 _ _ _ _ _ (hst.below bZ) hT).mono ?_
  rintro e w' ⟨s, rfl, hs, hb⟩
  have kZ' := kZ.below hb kZ.lt
  refine ⟨s, by rw [HA.out], ?_, bZ.trans (hb.mono bZ.size), (rZ.below hb rZ.lt).cell, kZ'.frozen, kZ'.cell⟩
  rw [goodI, HA.out, Lib.toList_data, hs]
  cases okI (reqK l) A B T.data.toList with
  | false => rfl
  | true =>
    simp only [Bool.true_and, if_true]
    rw [Bool.eq_iff_iff]; simp

theorem below4 {w w6 : World} (h : Below w.heap.size w w6) (a b c d : Value) :
    Below w.heap.size w ((((w6.setCell ⟨w.heap.size, 0, none⟩ a).setCell ⟨w.heap.size, 1, none⟩ b).setCell ⟨w.heap.size, 2, none⟩ c).setCell ⟨w.heap.size, 3, none⟩ d) :=
  (((h.setCell (p := ⟨w.heap.size, 0, none⟩) (Nat.le_refl _) a).setCell (p := ⟨w.heap.size, 1, none⟩) (Nat.le_refl _) b).setCell (p := ⟨w.heap.size, 2, none⟩) (Nat.le_refl _) c).setCell (p := ⟨w.heap.size, 3, none⟩) (Nat.le_refl _) d

theorem ppost_no {l : List UInt8} {w w' : World} {ok q : Bool} (hg : goodI l = (ok && q)) (h : (ok && q) = false) (hb : Below w.heap.size w w') :
    PPost (goodI l) l w (.returned (.tuple #[.agg #[.int .i64 0, .int .i64 0, .int .i64 0, .string ⟨#[]⟩], .bool false])) w' := by
  rw [h] at hg
  rw [hg]
  exact ⟨_, rfl, rfl, hb⟩
theorem ppost_yes {l : List UInt8} {w w' : World} {ok q : Bool} {A B : Int} {T : ByteArray} (hg : goodI l = (ok && q)) (h : (ok && q) = true) (HA : reqA l = (A, B, T.data.toList)) (hb : Below w.heap.size w w') :
    PPost (goodI l) l w (.returned (.tuple #[.agg #[.int .i64 (reqK l), .int .i64 A, .int .i64 B, .string T], .bool true])) w' := by
  rw [h] at hg
  rw [hg]
  exact ⟨T, by rw [HA]; rfl, by rw [HA]; rfl, hb⟩

set_option maxHeartbeats 1000000 in
theorem parse10 (s : ByteArray) (w : World) (hst : St w) (hs : s.size ≤ 100000) : Calls Tryd.prog 10 #[.string s] w (PPost (goodI s.data.toList) s.data.toList w) := by
  go_enter Tryd.func10, Tryd.ntmps10
  go_wp2_with fail
  have b0 := (Below.refl w.heap.size w).alloc (Nat.le_refl _) (.cells #[Value.int IntKind.i64 0, Value.int IntKind.i64 0, Value.int IntKind.i64 0, Value.string ⟨#[]⟩] 23)
  refine (cut20 _ _ (hst.below b0) (by omega)).mono ?_
  rintro e w1 ⟨rfl, hb1⟩
  have k1 := (Blk.new w 23 #[Value.int IntKind.i64 0, Value.int IntKind.i64 0, Value.int IntKind.i64 0, Value.string ⟨#[]⟩]).below hb1 (by simp)
  have b1 := b0.trans (hb1.mono (by simp))
  have z1 : w.heap.size + 1 ≤ w1.heap.size := by have := hb1.size; simpa using this
  clear b0 hb1
  go_wp2_with fail
  refine (words_any _).mono ?_
  rintro e w2 ⟨rfl, hwm⟩
  have b2 := b1.trans (hwm.2.mono b1.size)
  have k2 := k1.below hwm.2 (by omega)
  have z2 : w1.heap.size ≤ w2.heap.size := hwm.2.size
  have hown := hwm.1
  rw [words_D] at hown
  clear hwm b1 k1
  have hcl : (⟨(cutSp s.data.toList).1.toArray⟩ : ByteArray).size ≤ maxLen := by have := cut_size s.data.toList; have : s.data.toList.length = s.size := by simp
                                                                                 show (cutSp s.data.toList).1.toArray.size ≤ _; unfold maxLen; simp; omega
  go_wp2_with (at_lookup; refine wpList_lookup_own_int _ rfl _ _ 42 rfl 9 3 .i64 law9 Tryd.underlying42 Tryd.underlying3 (zero3 _) w1.heap.size 18 _ rfl hown _ _ rfl (keyOf_string_mk Tryd.underlying9 hcl) ?_; intro c hat hwc)
  have ek : c = reqK s.data.toList := by
    have := hat.symm.trans (words_at (cutSp s.data.toList).1)
    injection this with e; injection e
  subst ek
  clear hat hwc hcl hown
  go_wp2_with (go_at_call 12; refine (parts_any _ _).mono ?_; rintro e w' ⟨rfl, rfl⟩)
  all_goals
    have stA := (hst.below b2).below ((Below.refl w2.heap.size w2).alloc (Nat.le_refl _) (.cells #[Value.int IntKind.i64 (reqK s.data.toList), Value.int IntKind.i64 0, Value.int IntKind.i64 0, Value.string ⟨#[]⟩] 23))
    have rA := Blk.new w2 23 #[Value.int IntKind.i64 (reqK s.data.toList), Value.int IntKind.i64 0, Value.int IntKind.i64 0, Value.string ⟨#[]⟩]
    have bA := b2.alloc b2.size (.cells #[Value.int IntKind.i64 (reqK s.data.toList), Value.int IntKind.i64 0, Value.int IntKind.i64 0, Value.string ⟨#[]⟩] 23)
    have kA := k2.alloc (.cells #[Value.int IntKind.i64 (reqK s.data.toList), Value.int IntKind.i64 0, Value.int IntKind.i64 0, Value.string ⟨#[]⟩] 23)
    have hl1 := cut_size s.data.toList
    have hl2 := cut_size (cutSp s.data.toList).2.1
    have hl0 : s.data.toList.length = s.size := by simp
    have hc1 : (⟨(cutSp s.data.toList).2.1.toArray⟩ : ByteArray).size ≤ 100000 := by show (cutSp s.data.toList).2.1.toArray.size ≤ _; simp; omega
    have hc2 : (⟨(cutSp (cutSp s.data.toList).2.1).1.toArray⟩ : ByteArray).size ≤ 100000 := by show (cutSp (cutSp s.data.toList).2.1).1.toArray.size ≤ _; simp; omega
    have hc3 : (⟨(cutSp (cutSp s.data.toList).2.1).2.1.toArray⟩ : ByteArray).size ≤ 100000 := by show (cutSp (cutSp s.data.toList).2.1).2.1.toArray.size ≤ _; simp; omega
    have HL := hide (⟨hl1, hl2, hl0⟩ : _ ∧ _ ∧ _)
    have kB := k2
    clear hl1 hl2 hl0 k2
  · have hK : hasK (reqK s.data.toList) = true := by assumption
    obtain ⟨hT, hN⟩ := hasK_TN hK
    refine (cut20 _ _ stA hc1).mono ?_
    rintro e w3 ⟨rfl, hb3⟩
    have bW := bA.trans (hb3.mono bA.size)
    have kW := kA.below hb3 kA.lt
    have rW := rA.below hb3 rA.lt
    have stW := stA.below hb3
    clear bA kA rA stA hb3 kB
    go_wp2_with fail
    refine (atoi21 _ _ stW hc2).mono ?_
    rintro e w4 ⟨x4, rfl, hb4⟩
    have bV := bW.trans (hb4.mono bW.size)
    have kV := kW.below hb4 kW.lt
    have rV := rW.below hb4 rW.lt
    have stV := stW.below hb4
    clear bW kW rW stW hb4
    have cV := rV.cell
    have fV := rV.frozen
    go_wp2_with fail
    have bZ := (bV.setCell (p := ⟨w2.heap.size, 1, none⟩) b2.size (.int .i64 (atoiV (cutSp (cutSp s.data.toList).2.1).1))).setCell (p := ⟨w2.heap.size, 3, none⟩) b2.size (.string ⟨(cutSp (cutSp s.data.toList).2.1).2.1.toArray⟩)
    have rZ := (rV.set_ 1 (.int .i64 (atoiV (cutSp (cutSp s.data.toList).2.1).1))).set_ 3 (.string ⟨(cutSp (cutSp s.data.toList).2.1).2.1.toArray⟩)
    have kZ := (kV.far (p := ⟨w2.heap.size, 1, none⟩) (by show w.heap.size ≠ w2.heap.size; omega) (.int .i64 (atoiV (cutSp (cutSp s.data.toList).2.1).1))).far (p := ⟨w2.heap.size, 3, none⟩) (by show w.heap.size ≠ w2.heap.size; omega) (.string ⟨(cutSp (cutSp s.data.toList).2.1).2.1.toArray⟩)
    have HA := hide (show reqA s.data.toList = (atoiV (cutSp (cutSp s.data.toList).2.1).1, 0, (⟨(cutSp (cutSp s.data.toList).2.1).2.1.toArray⟩ : ByteArray).data.toList) by simp [reqA, hK, hN, hT])
    clear bV rV kV stV cV fV
    refine (parse_tail hst HA bZ rZ kZ (by unfold maxLen; omega)).mono ?_
    rintro e w6 ⟨s6, rfl, hg, hb6, c6, f6, d6⟩
    have Hg := hide hg
    clear hg
    go_wp2_with fail
    · have hk : okI (reqK s.data.toList) (reqA s.data.toList).1 (reqA s.data.toList).2.1 (reqA s.data.toList).2.2 = false := by assumption
      refine bodyPost_ret (v := .tuple #[.agg #[.int .i64 0, .int .i64 0, .int .i64 0, .string ⟨#[]⟩], .bool false]) (by simp [results, Tryd.results10, go_sem, c6, d6, f6]) rfl (ppost_no Hg.out (by rw [hk]; rfl) ?_)
      exact below4 hb6 _ _ _ _
    · have hq : (!s6.toList == s.toList) = true := by assumption
      rw [Lib.toList_data s] at hq
      refine bodyPost_ret (v := .tuple #[.agg #[.int .i64 0, .int .i64 0, .int .i64 0, .string ⟨#[]⟩], .bool false]) (by simp [results, Tryd.results10, go_sem, c6, d6, f6]) rfl (ppost_no Hg.out (by rw [Bool.and_eq_false_iff]; right; simpa using hq) ?_)
      exact below4 hb6 _ _ _ _
    · have hk : okI (reqK s.data.toList) (reqA s.data.toList).1 (reqA s.data.toList).2.1 (reqA s.data.toList).2.2 = true := by assumption
      have hq : (!s6.toList == s.toList) = false := by assumption
      rw [Lib.toList_data s] at hq
      refine bodyPost_ret (v := .tuple #[.agg #[.int .i64 (reqK s.data.toList), .int .i64 (atoiV (cutSp (cutSp s.data.toList).2.1).1), .int .i64 0, .string ⟨(cutSp (cutSp s.data.toList).2.1).2.1.toArray⟩], .bool true]) (by simp [results, Tryd.results10, go_sem, c6, d6, f6]) rfl (ppost_yes Hg.out (by rw [hk, Bool.true_and]; simpa using hq) HA.out ?_)
      exact below4 hb6 _ _ _ _
  · have hK : hasK (reqK s.data.toList) = false := by assumption
    have hN : hasN (reqK s.data.toList) = true := by assumption
    obtain ⟨hT, _⟩ := hasN_T hN
    refine (atoi21 _ _ stA hc1).mono ?_
    rintro e w4 ⟨x4, rfl, hb4⟩
    have bV := bA.trans (hb4.mono bA.size)
    have kV := kA.below hb4 kA.lt
    have rV := rA.below hb4 rA.lt
    clear bA kA rA stA hb4 kB
    have cV := rV.cell
    have fV := rV.frozen
    go_wp2_with fail
    have bZ := bV.setCell (p := ⟨w2.heap.size, 2, none⟩) b2.size (.int .i64 (atoiV (cutSp s.data.toList).2.1))
    have rZ := rV.set_ 2 (.int .i64 (atoiV (cutSp s.data.toList).2.1))
    have kZ := kV.far (p := ⟨w2.heap.size, 2, none⟩) (by show w.heap.size ≠ w2.heap.size; omega) (.int .i64 (atoiV (cutSp s.data.toList).2.1))
    have HA := hide (show reqA s.data.toList = (0, atoiV (cutSp s.data.toList).2.1, (⟨#[]⟩ : ByteArray).data.toList) by simp [reqA, hK, hN, hT])
    clear bV rV kV cV fV
    refine (parse_tail hst HA bZ rZ kZ (by unfold maxLen; first | omega | exact Nat.zero_le _)).mono ?_
    rintro e w6 ⟨s6, rfl, hg, hb6, c6, f6, d6⟩
    have Hg := hide hg
    clear hg
    go_wp2_with fail
    · have hk : okI (reqK s.data.toList) (reqA s.data.toList).1 (reqA s.data.toList).2.1 (reqA s.data.toList).2.2 = false := by assumption
      refine bodyPost_ret (v := .tuple #[.agg #[.int .i64 0, .int .i64 0, .int .i64 0, .string ⟨#[]⟩], .bool false]) (by simp [results, Tryd.results10, go_sem, c6, d6, f6]) rfl (ppost_no Hg.out (by rw [hk]; rfl) ?_)
      exact below4 hb6 _ _ _ _
    · have hq : (!s6.toList == s.toList) = true := by assumption
      rw [Lib.toList_data s] at hq
      refine bodyPost_ret (v := .tuple #[.agg #[.int .i64 0, .int .i64 0, .int .i64 0, .string ⟨#[]⟩], .bool false]) (by simp [results, Tryd.results10, go_sem, c6, d6, f6]) rfl (ppost_no Hg.out (by rw [Bool.and_eq_false_iff]; right; simpa using hq) ?_)
      exact below4 hb6 _ _ _ _
    · have hk : okI (reqK s.data.toList) (reqA s.data.toList).1 (reqA s.data.toList).2.1 (reqA s.data.toList).2.2 = true := by assumption
      have hq : (!s6.toList == s.toList) = false := by assumption
      rw [Lib.toList_data s] at hq
      refine bodyPost_ret (v := .tuple #[.agg #[.int .i64 (reqK s.data.toList), .int .i64 0, .int .i64 (atoiV (cutSp s.data.toList).2.1), .string ⟨#[]⟩], .bool true]) (by simp [results, Tryd.results10, go_sem, c6, d6, f6]) rfl (ppost_yes Hg.out (by rw [hk, Bool.true_and]; simpa using hq) HA.out ?_)
      exact below4 hb6 _ _ _ _
  · have hK : hasK (reqK s.data.toList) = false := by assumption
    have hN : hasN (reqK s.data.toList) = false := by assumption
    have hT : hasT (reqK s.data.toList) = true := by assumption
    have bZ := b2.alloc b2.size (.cells #[Value.int IntKind.i64 (reqK s.data.toList), Value.int IntKind.i64 0, Value.int IntKind.i64 0, Value.string ⟨(cutSp s.data.toList).2.1.toArray⟩] 23)
    have rZ := Blk.new w2 23 #[Value.int IntKind.i64 (reqK s.data.toList), Value.int IntKind.i64 0, Value.int IntKind.i64 0, Value.string ⟨(cutSp s.data.toList).2.1.toArray⟩]
    have kZ := kB.alloc (.cells #[Value.int IntKind.i64 (reqK s.data.toList), Value.int IntKind.i64 0, Value.int IntKind.i64 0, Value.string ⟨(cutSp s.data.toList).2.1.toArray⟩] 23)
    have HA := hide (show reqA s.data.toList = (0, 0, (⟨(cutSp s.data.toList).2.1.toArray⟩ : ByteArray).data.toList) by simp [reqA, hK, hN, hT])
    clear bA kA rA stA kB
    refine (parse_tail hst HA bZ rZ kZ (by unfold maxLen; first | omega | exact Nat.zero_le _)).mono ?_
    rintro e w6 ⟨s6, rfl, hg, hb6, c6, f6, d6⟩
    have Hg := hide hg
    clear hg
    go_wp2_with fail
    · have hk : okI (reqK s.data.toList) (reqA s.data.toList).1 (reqA s.data.toList).2.1 (reqA s.data.toList).2.2 = false := by assumption
      refine bodyPost_ret (v := .tuple #[.agg #[.int .i64 0, .int .i64 0, .int .i64 0, .string ⟨#[]⟩], .bool false]) (by simp [results, Tryd.results10, go_sem, c6, d6, f6]) rfl (ppost_no Hg.out (by rw [hk]; rfl) ?_)
      exact below4 hb6 _ _ _ _
    · have hq : (!s6.toList == s.toList) = true := by assumption
      rw [Lib.toList_data s] at hq
      refine bodyPost_ret (v := .tuple #[.agg #[.int .i64 0, .int .i64 0, .int .i64 0, .string ⟨#[]⟩], .bool false]) (by simp [results, Tryd.results10, go_sem, c6, d6, f6]) rfl (ppost_no Hg.out (by rw [Bool.and_eq_false_iff]; right; simpa using hq) ?_)
      exact below4 hb6 _ _ _ _
    · have hk : okI (reqK s.data.toList) (reqA s.data.toList).1 (reqA s.data.toList).2.1 (reqA s.data.toList).2.2 = true := by assumption
      have hq : (!s6.toList == s.toList) = false := by assumption
      rw [Lib.toList_data s] at hq
      refine bodyPost_ret (v := .tuple #[.agg #[.int .i64 (reqK s.data.toList), .int .i64 0, .int .i64 0, .string ⟨(cutSp s.data.toList).2.1.toArray⟩], .bool true]) (by simp [results, Tryd.results10, go_sem, c6, d6, f6]) rfl (ppost_yes Hg.out (by rw [hk, Bool.true_and]; simpa using hq) HA.out ?_)
      exact below4 hb6 _ _ _ _
  · have hK : hasK (reqK s.data.toList) = false := by assumption
    have hN : hasN (reqK s.data.toList) = false := by assumption
    have hT : hasT (reqK s.data.toList) = false := by assumption
    have HA := hide (show reqA s.data.toList = (0, 0, (⟨#[]⟩ : ByteArray).data.toList) by simp [reqA, hK, hN, hT])
    have bZ := bA
    have rZ := rA
    have kZ := kA
    clear bA kA rA stA kB
    refine (parse_tail hst HA bZ rZ kZ (by unfold maxLen; first | omega | exact Nat.zero_le _)).mono ?_
    rintro e w6 ⟨s6, rfl, hg, hb6, c6, f6, d6⟩
    have Hg := hide hg
    clear hg
    go_wp2_with fail
    · have hk : okI (reqK s.data.toList) (reqA s.data.toList).1 (reqA s.data.toList).2.1 (reqA s.data.toList).2.2 = false := by assumption
      refine bodyPost_ret (v := .tuple #[.agg #[.int .i64 0, .int .i64 0, .int .i64 0, .string ⟨#[]⟩], .bool false]) (by simp [results, Tryd.results10, go_sem, c6, d6, f6]) rfl (ppost_no Hg.out (by rw [hk]; rfl) ?_)
      exact below4 hb6 _ _ _ _
    · have hq : (!s6.toList == s.toList) = true := by assumption
      rw [Lib.toList_data s] at hq
      refine bodyPost_ret (v := .tuple #[.agg #[.int .i64 0, .int .i64 0, .int .i64 0, .string ⟨#[]⟩], .bool false]) (by simp [results, Tryd.results10, go_sem, c6, d6, f6]) rfl (ppost_no Hg.out (by rw [Bool.and_eq_false_iff]; right; simpa using hq) ?_)
      exact below4 hb6 _ _ _ _
    · have hk : okI (reqK s.data.toList) (reqA s.data.toList).1 (reqA s.data.toList).2.1 (reqA s.data.toList).2.2 = true := by assumption
      have hq : (!s6.toList == s.toList) = false := by assumption
      rw [Lib.toList_data s] at hq
      refine bodyPost_ret (v := .tuple #[.agg #[.int .i64 (reqK s.data.toList), .int .i64 0, .int .i64 0, .string ⟨#[]⟩], .bool true]) (by simp [results, Tryd.results10, go_sem, c6, d6, f6]) rfl (ppost_yes Hg.out (by rw [hk, Bool.true_and]; simpa using hq) HA.out ?_)
      exact below4 hb6 _ _ _ _
end Go.Proofs.YtojbkdcncflbkaaDoor
