/- The reference's Parse. -/
import Derived.Test.YtojbkdcncflbkaaDoorW8
namespace Go.Proofs.YtojbkdcncflbkaaDoor
open Go.RowKit Go.Maps Go.WideMaps

def WS (i : Nat) : List UInt8 := (([] : List UInt8) :: wl).getD i []
def ku (j : Nat) (l : List UInt8) : Int := match (WL.take j).reverse.find? (fun p => p.1 == l) with | some p => p.2 | none => 0
theorem ku_end (l : List UInt8) : ku 18 l = kindOf l := rfl
theorem ku_step : ∀ j, j < 18 → ∀ l, ku (j + 1) l = if WS (j + 1) = l then ((j + 1 : Nat) : Int) else ku j l := by
  intro j hj l
  have h2 : ∀ j, j < 18 → WL[j]? = some (WS (j + 1), ((j + 1 : Nat) : Int)) := by decide
  have hl : j < WL.length := by have : WL.length = 18 := rfl; omega
  have e : WL.take (j + 1) = WL.take j ++ [(WS (j + 1), ((j + 1 : Nat) : Int))] := by
    rw [List.take_succ_eq_append_getElem hl]
    have := h2 j hj
    rw [List.getElem?_eq_getElem hl] at this
    injection this with this
    rw [this]
  unfold ku
  rw [e, List.reverse_append]
  simp only [List.reverse_cons, List.reverse_nil, List.nil_append, List.singleton_append, List.find?_cons]
  by_cases h : WS (j + 1) = l
  · simp [h]
  · have : (WS (j + 1) == l) = false := by simpa using h
    simp [this, h]

def TailPostR (l : List UInt8) (A B : Int) (T : List UInt8) (w : World) (rb : Nat) (cs : Array Value) (e : Ending) (w' : World) : Prop :=
  ∃ s : ByteArray, e = .returned (.tuple #[.string s, .bool (okI (reqK l) A B T)]) ∧ goodI l = (okI (reqK l) A B T && s.toList == l) ∧ Below w.heap.size w w' ∧
    (∀ i, w'.cell? ⟨rb, i, none⟩ = cs[i]?) ∧ (∀ i, w'.frozen? ⟨w.heap.size, i, none⟩ = false) ∧ (∀ i, w'.cell? ⟨w.heap.size, i, none⟩ = zero23[i]?)

theorem parse_tailR {w W : World} {l : List UInt8} {A B : Int} {T : ByteArray} {rb : Nat} (HA : Hid (reqR l = some (A, B, T.data.toList))) (bZ : Below w.heap.size w W) (rZ : Blk W rb 28 (req23 (reqK l) A B T)) (kZ : Blk W w.heap.size 28 zero23) (hT : T.size ≤ maxLen) :
    Calls Tryd.prog 7 #[.agg #[.int .i64 (reqK l), .int .i64 A, .int .i64 B, .string T]] W (TailPostR l A B T.data.toList w rb (req23 (reqK l) A B T)) := by
  refine (line7 _ _ _ _ _ hT).mono ?_
  rintro e w' ⟨s, rfl, hs, hb⟩
  have kZ' := kZ.below hb kZ.lt
  refine ⟨s, rfl, ?_, bZ.trans (hb.mono bZ.size), (rZ.below hb rZ.lt).cell, kZ'.frozen, kZ'.cell⟩
  rw [← good_same, goodR, HA.out, Lib.toList_data, hs]
  simp only
  cases okI (reqK l) A B T.data.toList with
  | false => rfl
  | true =>
    simp only [Bool.true_and, if_true]
    rw [Bool.eq_iff_iff]; simp
theorem good_none {l : List UInt8} (h : reqR l = none) : goodI l = false := by rw [← good_same, goodR, h]
theorem pposts_none {l : List UInt8} {w w' : World} (h : goodI l = false) (hb : Below w.heap.size w w') :
    PPost (goodI l) l w (.returned (.tuple #[.agg #[.int .i64 0, .int .i64 0, .int .i64 0, .string ⟨#[]⟩], .bool false])) w' := by
  rw [h]; exact ⟨_, rfl, rfl, hb⟩
theorem ppost_yesR {l : List UInt8} {w w' : World} {ok q : Bool} {A B : Int} {T : ByteArray} (hg : goodI l = (ok && q)) (h : (ok && q) = true) (HA : reqR l = some (A, B, T.data.toList)) (hb : Below w.heap.size w w') :
    PPost (goodI l) l w (.returned (.tuple #[.agg #[.int .i64 (reqK l), .int .i64 A, .int .i64 B, .string T], .bool true])) w' := by
  have h1 := goodI_R (hg.trans h)
  rw [HA] at h1
  exact ppost_yes hg h (by injection h1 with h1; exact h1.symm) hb

set_option maxHeartbeats 4000000 in
theorem parse11 (s : ByteArray) (w : World) (hs : s.size ≤ 100000) : Calls Tryd.prog 11 #[.string s] w (PPost (goodI s.data.toList) s.data.toList w) := by
  go_enter Tryd.func11, Tryd.ntmps11
  go_wp2_with fail
  refine (cut22 _ _ (by unfold maxLen; omega)).mono ?_
  rintro e w1 ⟨cw, cr, cb, rfl, hcut, n1, rfl⟩
  go_wp2_with fail
  refine (words8_any _).mono ?_
  rintro e w2 ⟨rfl, hb2, hc2⟩
  go_wp2_with fail
  have es : (((w.alloc (.cells zero23 28)).drewN n1).alloc (.cells zero23 28)).heap.size = w.heap.size + 1 + 1 := by
    rw [World.size_alloc]
    show (w.alloc _).heap.size + 1 = _
    simp
  have hb2' : Below (w.heap.size + 1 + 1) (((w.alloc (.cells zero23 28)).drewN n1).alloc (.cells zero23 28)) w2 := by rw [← es]; exact hb2
  have hc2' : ∀ k, k < 19 → w2.cell? ⟨w.heap.size + 1 + 1, k, none⟩ = some (.string ⟨(WS k).toArray⟩) := by
    intro k hk
    rw [← es]
    exact hc2 k hk
  have kR : Blk w2 w.heap.size 28 zero23 := ((show Blk ((w.alloc (.cells zero23 28)).drewN n1) w.heap.size 28 zero23 from Blk.new w 28 zero23).alloc (.cells zero23 28)).below hb2' (by omega)
  have rR : Blk w2 (w.heap.size + 1) 28 zero23 := by
    have h := Blk.new ((w.alloc (.cells zero23 28)).drewN n1) 28 zero23
    rw [show ((w.alloc (.cells zero23 28)).drewN n1).heap.size = w.heap.size + 1 by show (w.alloc _).heap.size = _; simp] at h
    exact h.below hb2' (by omega)
  have bR : Below w.heap.size w w2 := ((bdrew ((Below.refl _ _).alloc (Nat.le_refl _) _) n1).alloc (by show w.heap.size ≤ (w.alloc _).heap.size; simp) _).trans (hb2'.mono (by omega))
  have Hinv : Hid (Blk w2 (w.heap.size + 1) 28 (req23 (ku 0 cw.data.toList) 0 0 ⟨#[]⟩) ∧ Blk w2 w.heap.size 28 zero23 ∧ (∀ k, k < 19 → w2.cell? ⟨w.heap.size + 1 + 1, k, none⟩ = some (.string ⟨(WS k).toArray⟩)) ∧ Below w.heap.size w w2) := ⟨rR, kR, hc2', bR⟩
  have Hcut := hide hcut
  clear hb2 hc2 hb2' hc2' kR rR bR hcut es
  go_loopw [9] (fun i wr => ∃ j : Nat, j ≤ 18 ∧ i = .int .i64 ((j : Int) + 1) ∧ Hid (Blk wr (w.heap.size + 1) 28 (req23 (ku j cw.data.toList) 0 0 ⟨#[]⟩) ∧ Blk wr w.heap.size 28 zero23 ∧ (∀ k, k < 19 → wr.cell? ⟨w.heap.size + 1 + 1, k, none⟩ = some (.string ⟨(WS k).toArray⟩)) ∧ Below w.heap.size w wr)) (fun i _ => 19 - (intOf i).toNat)
  case atStart => exact ⟨0, by omega, by go_num, Hinv⟩
  case round =>
    clear Hinv
    obtain ⟨j, hj, rfl, Hinv⟩ := hrel
    have hks := Hinv.out.1
    by_cases hlt : j < 18
    · have hcj := Hinv.out.2.2.1 (j + 1) (by omega)
      have Hst := hide (ku_step j hlt cw.data.toList)
      by_cases hw : WS (j + 1) = cw.data.toList
      · have hwb : (WS (j + 1) == cw.toList) = true := by rw [Lib.toList_data]; simpa using hw
        have c0 := hks.cell 0
        have f0 := hks.frozen 0
        have Hst2 := hide (Hst.out.trans (if_pos hw))
        clear hw hks Hst
        go_wp2_with fail
        go_roundw
        case rel =>
          obtain ⟨h1, h2, h3, h4⟩ := Hinv.out
          refine ⟨j + 1, by omega, by go_num, ?_, h2.far (by show w.heap.size ≠ w.heap.size + 1; omega) _, fun k hk => ?_, h4.setCell (p := ⟨w.heap.size + 1, 0, none⟩) (by show _ ≤ w.heap.size + 1; omega) _⟩
          · have := h1.set_ 0 (.int .i64 ((j + 1 : Nat) : Int))
            rw [Hst2.out]
            simpa using this
          · rw [World.cell?_setCell_other _ _ _ _ (by intro e; injection e with e; omega)]
            exact h3 k hk
        case measure => simp [intOf]; omega
      · have hwb : (WS (j + 1) == cw.toList) = false := by rw [Lib.toList_data]; simpa using hw
        have Hst2 := hide (Hst.out.trans (if_neg hw))
        clear hw hks Hst
        go_wp2_with fail
        go_roundw
        case rel => exact ⟨j + 1, by omega, by go_num, by rw [Hid, Hst2.out]; exact Hinv.out⟩
        case measure => simp [intOf]; omega
    · obtain rfl : j = 18 := by omega
      clear hj hlt hks
      obtain ⟨rR, kR, _, bR⟩ := Hinv.out
      have ek : ku 18 cw.data.toList = reqK s.data.toList := by rw [ku_end, reqK, ← Hcut.out]
      rw [ek] at rR
      have cR := rR.cell
      have fQ := rR.frozen
      have dR := kR.cell
      have fR := kR.frozen
      have Hk := hide (⟨rR, kR⟩ : _ ∧ _)
      clear Hinv rR ek kR
      have hl1 := cut_size s.data.toList
      have hl2 : cr.size ≤ 100000 := by
        rw [← Hcut.out] at hl1
        have h1 : cr.data.toList.length = cr.size := by simp
        have h2 : s.data.toList.length = s.size := by simp
        have := hl1.2
        simp only at this
        omega
      clear hl1
      have hh : has (reqK s.data.toList) < 0 ∨ has (reqK s.data.toList) = 0 ∨ has (reqK s.data.toList) = 1 ∨ has (reqK s.data.toList) = 2 ∨ has (reqK s.data.toList) = 3 := by unfold has; (repeat' split) <;> omega
      go_wp2_with fail
      refine (has_any _ _).mono ?_
      rintro e w' ⟨rfl, rfl⟩
      rcases hh with hh | hh | hh | hh | hh
      · have Hno := hide (good_none (show reqR s.data.toList = none by simp [reqR, hh]))
        go_wp2_with fail
        refine bodyPost_ret (v := .tuple #[.agg #[.int .i64 0, .int .i64 0, .int .i64 0, .string ⟨#[]⟩], .bool false]) (by simp [results, Tryd.results11, go_sem, cR, dR, fR]) rfl (pposts_none Hno.out ?_)
        exact below4 bR _ _ _ _
      · cases cb
        · have HA := hide (show reqR s.data.toList = some (0, 0, (⟨#[]⟩ : ByteArray).data.toList) by simp [reqR, ← Hcut.out, hh])
          have rZ := Hk.out.1
          have kZ := Hk.out.2
          have bZ := bR
          go_wp2_with fail
          refine (parse_tailR HA bZ rZ kZ (by unfold maxLen; first | omega | exact Nat.zero_le _)).mono ?_
          rintro e w6 ⟨s6, rfl, hg, hb6, c6, f6, d6⟩
          have Hg := hide hg
          clear hg
          go_wp2_with fail
          · have hk : okI (reqK s.data.toList) 0 0 [] = false := by assumption
            refine bodyPost_ret (v := .tuple #[.agg #[.int .i64 0, .int .i64 0, .int .i64 0, .string ⟨#[]⟩], .bool false]) (by simp [results, Tryd.results11, go_sem, c6, d6, f6]) rfl (ppost_no Hg.out (by rw [hk]; rfl) ?_)
            exact below4 hb6 _ _ _ _
          · have hq : (!s6.toList == s.toList) = true := by assumption
            rw [Lib.toList_data s] at hq
            refine bodyPost_ret (v := .tuple #[.agg #[.int .i64 0, .int .i64 0, .int .i64 0, .string ⟨#[]⟩], .bool false]) (by simp [results, Tryd.results11, go_sem, c6, d6, f6]) rfl (ppost_no Hg.out (by rw [Bool.and_eq_false_iff]; right; simpa using hq) ?_)
            exact below4 hb6 _ _ _ _
          · have hk : okI (reqK s.data.toList) 0 0 [] = true := by assumption
            have hq : (!s6.toList == s.toList) = false := by assumption
            rw [Lib.toList_data s] at hq
            refine bodyPost_ret (v := .tuple #[.agg #[.int .i64 (reqK s.data.toList), .int .i64 0, .int .i64 0, .string ⟨#[]⟩], .bool true]) (by simp [results, Tryd.results11, go_sem, c6, d6, f6]) rfl (ppost_yesR Hg.out (by rw [hk, Bool.true_and]; simpa using hq) HA.out ?_)
            exact below4 hb6 _ _ _ _
        · have Hno := hide (good_none (show reqR s.data.toList = none by simp [reqR, ← Hcut.out, hh]))
          go_wp2_with fail
          refine bodyPost_ret (v := .tuple #[.agg #[.int .i64 0, .int .i64 0, .int .i64 0, .string ⟨#[]⟩], .bool false]) (by simp [results, Tryd.results11, go_sem, cR, dR, fR]) rfl (pposts_none Hno.out ?_)
          exact below4 bR _ _ _ _
      · cases cb
        · have Hno := hide (good_none (show reqR s.data.toList = none by simp [reqR, ← Hcut.out, hh]))
          go_wp2_with fail
          refine bodyPost_ret (v := .tuple #[.agg #[.int .i64 0, .int .i64 0, .int .i64 0, .string ⟨#[]⟩], .bool false]) (by simp [results, Tryd.results11, go_sem, cR, dR, fR]) rfl (pposts_none Hno.out ?_)
          exact below4 bR _ _ _ _
        · have HA := hide (show reqR s.data.toList = some (0, numberI cr.data.toList, (⟨#[]⟩ : ByteArray).data.toList) by simp [reqR, ← Hcut.out, hh])
          go_wp2_with (go_at_call 23; refine (number_any _ _ (by unfold maxLen; omega)).mono ?_; rintro e w' ⟨rfl, nq, rfl⟩)
          have rZ := (show Blk (wr.drewN nq) (w.heap.size + 1) 28 _ from Hk.out.1).set_ 2 (.int .i64 (numberI cr.data.toList))
          have kZ := (show Blk (wr.drewN nq) w.heap.size 28 _ from Hk.out.2).far (p := ⟨w.heap.size + 1, 2, none⟩) (by show w.heap.size ≠ w.heap.size + 1; omega) (.int .i64 (numberI cr.data.toList))
          have bZ := (bdrew bR nq).setCell (p := ⟨w.heap.size + 1, 2, none⟩) (by show _ ≤ w.heap.size + 1; omega) (.int .i64 (numberI cr.data.toList))
          refine (parse_tailR HA bZ rZ kZ (by unfold maxLen; first | omega | exact Nat.zero_le _)).mono ?_
          rintro e w6 ⟨s6, rfl, hg, hb6, c6, f6, d6⟩
          have Hg := hide hg
          clear hg
          go_wp2_with fail
          · have hk : okI (reqK s.data.toList) 0 (numberI cr.data.toList) [] = false := by assumption
            refine bodyPost_ret (v := .tuple #[.agg #[.int .i64 0, .int .i64 0, .int .i64 0, .string ⟨#[]⟩], .bool false]) (by simp [results, Tryd.results11, go_sem, c6, d6, f6]) rfl (ppost_no Hg.out (by rw [hk]; rfl) ?_)
            exact below4 hb6 _ _ _ _
          · have hq : (!s6.toList == s.toList) = true := by assumption
            rw [Lib.toList_data s] at hq
            refine bodyPost_ret (v := .tuple #[.agg #[.int .i64 0, .int .i64 0, .int .i64 0, .string ⟨#[]⟩], .bool false]) (by simp [results, Tryd.results11, go_sem, c6, d6, f6]) rfl (ppost_no Hg.out (by rw [Bool.and_eq_false_iff]; right; simpa using hq) ?_)
            exact below4 hb6 _ _ _ _
          · have hk : okI (reqK s.data.toList) 0 (numberI cr.data.toList) [] = true := by assumption
            have hq : (!s6.toList == s.toList) = false := by assumption
            rw [Lib.toList_data s] at hq
            refine bodyPost_ret (v := .tuple #[.agg #[.int .i64 (reqK s.data.toList), .int .i64 0, .int .i64 (numberI cr.data.toList), .string ⟨#[]⟩], .bool true]) (by simp [results, Tryd.results11, go_sem, c6, d6, f6]) rfl (ppost_yesR Hg.out (by rw [hk, Bool.true_and]; simpa using hq) HA.out ?_)
            exact below4 hb6 _ _ _ _
      · cases cb
        · have Hno := hide (good_none (show reqR s.data.toList = none by simp [reqR, ← Hcut.out, hh]))
          go_wp2_with fail
          refine bodyPost_ret (v := .tuple #[.agg #[.int .i64 0, .int .i64 0, .int .i64 0, .string ⟨#[]⟩], .bool false]) (by simp [results, Tryd.results11, go_sem, cR, dR, fR]) rfl (pposts_none Hno.out ?_)
          exact below4 bR _ _ _ _
        · go_wp2_with fail
          refine (cut22 _ _ (by unfold maxLen; omega)).mono ?_
          rintro e w' ⟨cv, ct, cf, rfl, hcut2, n2, rfl⟩
          have hl3 := cut_size cr.data.toList
          rw [← hcut2] at hl3
          have hl4 : cv.data.toList.length = cv.size := by simp
          have hl5 : ct.data.toList.length = ct.size := by simp
          have hl6 : cr.data.toList.length = cr.size := by simp
          have hl7 := hl3.1
          have hl8 := hl3.2
          simp only at hl7 hl8
          have hl9 : cv.size ≤ 100000 := by omega
          have hl10 : ct.size ≤ 100000 := by omega
          have Hcut2 := hide hcut2
          clear hl3 hl4 hl5 hl6 hl7 hl8 hcut2
          cases cf
          · have Hno := hide (good_none (show reqR s.data.toList = none by simp [reqR, ← Hcut.out, hh, ← Hcut2.out]))
            go_wp2_with fail
            refine bodyPost_ret (v := .tuple #[.agg #[.int .i64 0, .int .i64 0, .int .i64 0, .string ⟨#[]⟩], .bool false]) (by simp [results, Tryd.results11, go_sem, cR, dR, fR]) rfl (pposts_none Hno.out ?_)
            exact below4 (bdrew bR n2) _ _ _ _
          · have HA := hide (show reqR s.data.toList = some (numberI cv.data.toList, 0, ct.data.toList) by simp [reqR, ← Hcut.out, hh, ← Hcut2.out])
            go_wp2_with (go_at_call 23; refine (number_any _ _ (by unfold maxLen; omega)).mono ?_; rintro e w' ⟨rfl, nq, rfl⟩)
            have rZ := ((show Blk (wr.drewN (n2 + nq)) (w.heap.size + 1) 28 _ from Hk.out.1).set_ 1 (.int .i64 (numberI cv.data.toList))).set_ 3 (.string ct)
            have kZ := ((show Blk (wr.drewN (n2 + nq)) w.heap.size 28 _ from Hk.out.2).far (p := ⟨w.heap.size + 1, 1, none⟩) (by show w.heap.size ≠ w.heap.size + 1; omega) (.int .i64 (numberI cv.data.toList))).far (p := ⟨w.heap.size + 1, 3, none⟩) (by show w.heap.size ≠ w.heap.size + 1; omega) (.string ct)
            have bZ := ((bdrew bR (n2 + nq)).setCell (p := ⟨w.heap.size + 1, 1, none⟩) (by show _ ≤ w.heap.size + 1; omega) (.int .i64 (numberI cv.data.toList))).setCell (p := ⟨w.heap.size + 1, 3, none⟩) (by show _ ≤ w.heap.size + 1; omega) (.string ct)
            refine (parse_tailR HA bZ rZ kZ (by unfold maxLen; first | omega | exact Nat.zero_le _)).mono ?_
            rintro e w6 ⟨s6, rfl, hg, hb6, c6, f6, d6⟩
            have Hg := hide hg
            clear hg
            go_wp2_with fail
            · have hk : okI (reqK s.data.toList) (numberI cv.data.toList) 0 ct.data.toList = false := by assumption
              refine bodyPost_ret (v := .tuple #[.agg #[.int .i64 0, .int .i64 0, .int .i64 0, .string ⟨#[]⟩], .bool false]) (by simp [results, Tryd.results11, go_sem, c6, d6, f6]) rfl (ppost_no Hg.out (by rw [hk]; rfl) ?_)
              exact below4 hb6 _ _ _ _
            · have hq : (!s6.toList == s.toList) = true := by assumption
              rw [Lib.toList_data s] at hq
              refine bodyPost_ret (v := .tuple #[.agg #[.int .i64 0, .int .i64 0, .int .i64 0, .string ⟨#[]⟩], .bool false]) (by simp [results, Tryd.results11, go_sem, c6, d6, f6]) rfl (ppost_no Hg.out (by rw [Bool.and_eq_false_iff]; right; simpa using hq) ?_)
              exact below4 hb6 _ _ _ _
            · have hk : okI (reqK s.data.toList) (numberI cv.data.toList) 0 ct.data.toList = true := by assumption
              have hq : (!s6.toList == s.toList) = false := by assumption
              rw [Lib.toList_data s] at hq
              refine bodyPost_ret (v := .tuple #[.agg #[.int .i64 (reqK s.data.toList), .int .i64 (numberI cv.data.toList), .int .i64 0, .string ct], .bool true]) (by simp [results, Tryd.results11, go_sem, c6, d6, f6]) rfl (ppost_yesR Hg.out (by rw [hk, Bool.true_and]; simpa using hq) HA.out ?_)
              exact below4 hb6 _ _ _ _
      · cases cb
        · have Hno := hide (good_none (show reqR s.data.toList = none by simp [reqR, ← Hcut.out, hh]))
          go_wp2_with fail
          refine bodyPost_ret (v := .tuple #[.agg #[.int .i64 0, .int .i64 0, .int .i64 0, .string ⟨#[]⟩], .bool false]) (by simp [results, Tryd.results11, go_sem, cR, dR, fR]) rfl (pposts_none Hno.out ?_)
          exact below4 bR _ _ _ _
        · have HA := hide (show reqR s.data.toList = some (0, 0, cr.data.toList) by simp [reqR, ← Hcut.out, hh])
          go_wp2_with fail
          have rZ := Hk.out.1.set_ 3 (.string cr)
          have kZ := Hk.out.2.far (p := ⟨w.heap.size + 1, 3, none⟩) (by show w.heap.size ≠ w.heap.size + 1; omega) (.string cr)
          have bZ := bR.setCell (p := ⟨w.heap.size + 1, 3, none⟩) (by show _ ≤ w.heap.size + 1; omega) (.string cr)
          refine (parse_tailR HA bZ rZ kZ (by unfold maxLen; first | omega | exact Nat.zero_le _)).mono ?_
          rintro e w6 ⟨s6, rfl, hg, hb6, c6, f6, d6⟩
          have Hg := hide hg
          clear hg
          go_wp2_with fail
          · have hk : okI (reqK s.data.toList) 0 0 cr.data.toList = false := by assumption
            refine bodyPost_ret (v := .tuple #[.agg #[.int .i64 0, .int .i64 0, .int .i64 0, .string ⟨#[]⟩], .bool false]) (by simp [results, Tryd.results11, go_sem, c6, d6, f6]) rfl (ppost_no Hg.out (by rw [hk]; rfl) ?_)
            exact below4 hb6 _ _ _ _
          · have hq : (!s6.toList == s.toList) = true := by assumption
            rw [Lib.toList_data s] at hq
            refine bodyPost_ret (v := .tuple #[.agg #[.int .i64 0, .int .i64 0, .int .i64 0, .string ⟨#[]⟩], .bool false]) (by simp [results, Tryd.results11, go_sem, c6, d6, f6]) rfl (ppost_no Hg.out (by rw [Bool.and_eq_false_iff]; right; simpa using hq) ?_)
            exact below4 hb6 _ _ _ _
          · have hk : okI (reqK s.data.toList) 0 0 cr.data.toList = true := by assumption
            have hq : (!s6.toList == s.toList) = false := by assumption
            rw [Lib.toList_data s] at hq
            refine bodyPost_ret (v := .tuple #[.agg #[.int .i64 (reqK s.data.toList), .int .i64 0, .int .i64 0, .string cr], .bool true]) (by simp [results, Tryd.results11, go_sem, c6, d6, f6]) rfl (ppost_yesR Hg.out (by rw [hk, Bool.true_and]; simpa using hq) HA.out ?_)
            exact below4 hb6 _ _ _ _
end Go.Proofs.YtojbkdcncflbkaaDoor
