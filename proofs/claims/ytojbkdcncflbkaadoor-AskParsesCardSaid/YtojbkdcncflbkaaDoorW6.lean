/- ask.Line and the reference's Line. -/
import Derived.Test.YtojbkdcncflbkaaDoorW5
import Derived.Lib.SmallJoins
namespace Go.Proofs.YtojbkdcncflbkaaDoor
open Go.RowKit Go.Maps Go.WideMaps

/-- What the calls lean on: the library's variables read as they are laid. -/
structure St (w : World) : Prop where
  hsz : 4 ≤ w.heap.size
  htab : Lib.TabIs Tryd.prog w "internal/strconv.uint64pow10" .u64 Lib.pow10Tab
  hm : ∃ m, w.cell? ⟨0, 0, none⟩ = some (.int .i64 m)
  hs : ∃ ev, w.cell? ⟨1, 0, none⟩ = some ev ∧ (ev = .nilIface ∨ ∃ te pe, ev = .iface te pe)
  hr : ∃ ev, w.cell? ⟨2, 0, none⟩ = some ev ∧ (ev = .nilIface ∨ ∃ te pe, ev = .iface te pe)

theorem gpow : Tryd.prog.globalNamed "internal/strconv.uint64pow10" = some 3 := by kernel_rfl

theorem St.below {w w' : World} (h : St w) (hb : Below w.heap.size w w') : St w' where
  hsz := Nat.le_trans h.hsz hb.size
  htab := var?_below hb gpow (by have := h.hsz; omega) h.htab
  hm := by have := h.hsz; rw [hb.cell (p := ⟨0, 0, none⟩) (by show 0 < _; omega)]; exact h.hm
  hs := by have := h.hsz; rw [hb.cell (p := ⟨1, 0, none⟩) (by show 1 < _; omega)]; exact h.hs
  hr := by have := h.hsz; rw [hb.cell (p := ⟨2, 0, none⟩) (by show 2 < _; omega)]; exact h.hr

theorem itoa_any (n : Int) (w : World) (h : St w) (h0 : 0 ≤ n) (h1 : n ≤ 1000000000) : Calls Tryd.prog 15 #[.int .i64 n] w fun e w' => e = .returned (.string ⟨(Lib.decDigits n.toNat).toArray⟩) ∧ Below w.heap.size w w' := by
  refine (Tryd.strconv_Itoa n (by omega) (by omega) w h.htab).mono fun e w' ⟨he, k, os, hw⟩ => ⟨?_, ?_⟩
  · rw [he, Lib.itoa, if_neg (by omega)]
  · rw [hw]
    exact ⟨rfl, rfl, rfl, by show _ ≤ (w.heap ++ os).size; simp, fun i hi => by show (w.heap ++ os)[i]? = _; rw [Array.getElem?_append_left hi]⟩

def okI (k K N : Int) (t : List UInt8) : Bool := !(wordOf k).isEmpty && (mayB K (hasK k) && (mayB N (hasN k) && ((hasT k || t.isEmpty) && plainB t)))
def lineI (k K N : Int) (t : List UInt8) : List UInt8 :=
  wordOf k ++ ((if hasK k then 32 :: Lib.decDigits K.toNat else []) ++ ((if hasN k then 32 :: Lib.decDigits N.toNat else []) ++ (if hasT k then 32 :: t else [])))

def LineI (k K N : Int) (t : ByteArray) (w : World) (e : Ending) (w' : World) : Prop :=
  ∃ (s : ByteArray), e = .returned (.tuple #[.string s, .bool (okI k K N t.data.toList)]) ∧ s.data.toList = (if okI k K N t.data.toList then lineI k K N t.data.toList else []) ∧ Below w.heap.size w w'

theorem boxed {w w1 : World} {cs : Array Value} {T : TypeId} (hb : Below (w.heap.size + 1) (w.alloc (.cells cs T)) w1) : ∀ i, w1.cell? ⟨w.heap.size, i, none⟩ = cs[i]? := by
  intro i
  rw [hb.cell (p := ⟨w.heap.size, i, none⟩) (by show w.heap.size < _; omega)]
  unfold World.cell?
  rw [show (w.alloc (.cells cs T)).heap[w.heap.size]? = some (.cells cs T) from heap_alloc_new w _]
  rfl
theorem cells_keep {w w' : World} {g : Nat} {cs : Array Value} (h : ∀ i, w.cell? ⟨g, i, none⟩ = cs[i]?) (hb : Below w.heap.size w w') (hg : g < w.heap.size) : ∀ i, w'.cell? ⟨g, i, none⟩ = cs[i]? :=
  fun i => (hb.cell (p := ⟨g, i, none⟩) hg).trans (h i)

theorem may_bd {n : Int} {b : Bool} (h : mayB n b = true) : 0 ≤ n ∧ n ≤ 1000000000 := by
  simp [mayB] at h; omega
theorem may_len {n : Int} {b : Bool} (h : mayB n b = true) : (Lib.decDigits n.toNat).length ≤ 1000000001 := by
  have := may_bd h
  have := dec_len n.toNat
  omega
theorem word_len (k : Int) : (wordOf k).length ≤ 8 := by
  unfold wordOf
  have h : ∀ p ∈ WL, p.1.length ≤ 8 := by decide
  split
  · exact h _ (List.mem_of_find?_eq_some ‹_›)
  · simp
theorem plain_len {t : ByteArray} (h : plainB t.data.toList = true) : t.size ≤ 4000 := by
  simp [plainB] at h; exact h.2
theorem lineI_no {k K N : Int} {t : ByteArray} {w w' : World} (h : okI k K N t.data.toList = false) (hb : Below w.heap.size w w') : LineI k K N t w (.returned (.tuple #[.string ⟨#[]⟩, .bool false])) w' :=
  ⟨_, by rw [h], by rw [h]; rfl, hb⟩
theorem lineI_yes {k K N : Int} {t : ByteArray} {w w' : World} (h : okI k K N t.data.toList = true) (s : ByteArray) (hs : s.data.toList = lineI k K N t.data.toList) (hb : Below w.heap.size w w') : LineI k K N t w (.returned (.tuple #[.string s, .bool true])) w' :=
  ⟨s, by rw [h], by rw [h]; simpa using hs, hb⟩

set_option maxHeartbeats 1000000 in
theorem line6 (k K N : Int) (t : ByteArray) (w : World) (hst : St w) (ht : t.size ≤ maxLen) : Calls Tryd.prog 6 #[.agg #[.int .i64 k, .int .i64 K, .int .i64 N, .string t]] w (LineI k K N t w) := by
  unfold maxLen at ht
  go_enter Tryd.func6, Tryd.ntmps6
  go_wp2_with fail
  refine (word_any _ _).mono ?_
  rintro e w1 ⟨rfl, hb1⟩
  simp only [World.size_alloc] at hb1
  have c1 := boxed hb1
  have hb : Below w.heap.size w w1 := ((Below.refl _ _).alloc (Nat.le_refl _) _).trans (hb1.mono (by omega))
  have hs1 : w.heap.size + 1 ≤ w1.heap.size := by have := hb1.size; simpa using this
  clear hb1
  go_wp2_with (first | (go_at_call 12; refine (parts_any _ _).mono ?_; rintro e w' ⟨rfl, rfl⟩) | (go_at_call 13; refine (may_any _ _ _).mono ?_; rintro e w' ⟨rfl, rfl⟩))
  · go_ret2
    exact lineI_no (by simp [okI, *]) hb
  · go_ret2
    exact lineI_no (by simp [okI, *]) hb
  · go_ret2
    exact lineI_no (by simp [okI, *]) hb
  · have h5 : t.toList.isEmpty = false := by assumption
    rw [Lib.toList_data] at h5
    go_ret2
    exact lineI_no (by simp [okI, *]) hb
  all_goals
    have m1 : mayB K (hasK k) = true := by assumption
    have m2 : mayB N (hasN k) = true := by assumption
    have hw0 : (wordOf k).isEmpty = false := by assumption
    refine (plain14 _ _ (by unfold maxLen; omega)).mono ?_
    rintro e w2 ⟨rfl, hb2⟩
    have c2 := cells_keep c1 hb2 (by omega)
    have hs2 : w.heap.size + 1 ≤ w2.heap.size := Nat.le_trans hs1 hb2.size
    have hbb : Below w.heap.size w w2 := hb.trans (hb2.mono hb.size)
    have hst2 := hst.below hbb
    clear hb hb2 c1 hst
    obtain ⟨b1, b2⟩ := may_bd m1
    obtain ⟨b3, b4⟩ := may_bd m2
    have l1 := may_len m1
    have l2 := may_len m2
    have l3 := word_len k
    have hit : ∀ n : Int, 0 ≤ n → n ≤ 1000000000 → Calls Tryd.prog 15 #[.int .i64 n] w2 fun e w' => e = .returned (.string ⟨(Lib.decDigits n.toNat).toArray⟩) ∧ Below w2.heap.size w2 w' := fun n h0 h1 => itoa_any n w2 hst2 h0 h1
    have Hst := hide hst2
    have Hit := hide hit
    clear hst2 hit
    cases hp : plainB t.data.toList
    · go_wp2
      go_ret2
      exact lineI_no (by simp [okI, hp]) hbb
    · have l4 := plain_len hp
      have hT : (hasT k || t.data.toList.isEmpty) = true := by
        first | (have h5 : t.toList.isEmpty = true := by assumption
                 rw [Lib.toList_data] at h5; rw [h5, Bool.or_true]) | (have h5 : hasT k = true := by assumption
                                                                       rw [h5, Bool.true_or])
      have hok : okI k K N t.data.toList = true := by unfold okI; rw [hp, m1, m2, hw0, hT]; rfl
      have Hok := hide hok
      clear hok
      cases hk : hasK k
      · cases hn : hasN k
        · go_wp2_with fail
          go_ret2
          exact lineI_yes Hok.out _ (by simp [lineI, ByteArray.data_append, *]) hbb
        · go_wp2_with (go_at_call 15; refine (Hit.out _ (by omega) (by omega)).mono ?_; rintro e w3 ⟨rfl, hb3⟩; have c3 := cells_keep c2 hb3 (by omega))
          go_ret2
          exact lineI_yes Hok.out _ (by simp [lineI, ByteArray.data_append, *]) (hbb.trans (hb3.mono hbb.size))
      · cases hn : hasN k
        · go_wp2_with (go_at_call 15; refine (Hit.out _ (by omega) (by omega)).mono ?_; rintro e w3 ⟨rfl, hb3⟩; have c3 := cells_keep c2 hb3 (by omega))
          go_ret2
          exact lineI_yes Hok.out _ (by simp [lineI, ByteArray.data_append, *]) (hbb.trans (hb3.mono hbb.size))
        · exfalso
          simp [hasK, hasN] at hk hn
          omega
end Go.Proofs.YtojbkdcncflbkaaDoor
