/- wset.Cat. -/
import Derived.Test.YthpjjlmgdalpaaaC4
namespace Go.Proofs.Ythpjjlmgdalpaaa
open Go.RowKit Go.Maps Go.WideMaps

theorem CatSt.alloc {w W : World} {n : Nat} {out : List (List UInt8)} (h : CatSt w W n out) (o : Obj) : CatSt w (W.alloc o) n out := by
  obtain ⟨hm, ⟨v, hq, hown⟩, ⟨f, hcm, hf⟩, hb, hsz⟩ := h
  refine ⟨hm.alloc o, ⟨v, hq.alloc o, hown.alloc o⟩, ⟨f, hcm.below ((Below.refl W.heap.size W).alloc (Nat.le_refl _) o) hcm.lt, hf⟩, hb.alloc hb.size o, by simp; omega⟩
theorem CatSt.start (w : World) : CatSt w (((w.alloc (.map #[] 0)).alloc (.cells #[.map (some w.heap.size)] 145)).alloc (.cells #[.slice none 0 0] 22)) 0 [] := by
  have s1 : (w.alloc (.map #[] 0)).heap.size = w.heap.size + 1 := by simp
  have s2 : ((w.alloc (.map #[] 0)).alloc (.cells #[.map (some w.heap.size)] 145)).heap.size = w.heap.size + 2 := by simp
  refine ⟨?_, ⟨.slice none 0 0, ?_, Own.nil _ _ _⟩, ⟨fun _ => 0, ?_, fun l => by simp⟩, ?_, by simp⟩
  · have := (Blk.new (w.alloc (.map #[] 0)) 145 #[.map (some w.heap.size)]).alloc (.cells #[.slice none 0 0] 22)
    rwa [s1] at this
  · have := Blk.new ((w.alloc (.map #[] 0)).alloc (.cells #[.map (some w.heap.size)] 145)) 22 #[.slice none 0 0]
    rwa [s2] at this
  · refine (CMap.made w).below (B := w.heap.size + 1) ?_ (by omega)
    exact ((Below.refl _ _).alloc (by omega) _).alloc (by simp) _
  · exact (((Below.refl _ _).alloc (Nat.le_refl _) _).alloc (by omega) _).alloc (by omega) _

/-- What of b stands behind x. -/
def restL (k : Nat) (b : List (List UInt8)) (x : List UInt8) : List (List UInt8) := if k ≤ x.length ∧ 0 < b.length then b.take 1 else b
def putsL (k : Nat) (a b : List (List UInt8)) : List (List UInt8) := a.flatMap fun x => (restL k b x).map fun y => (x ++ y).take k
/-- The product, in the order in which its words come. -/
def prodL (k : Nat) (a b : List (List UInt8)) : List (List UInt8) := (putsL k a b).foldl putW []
theorem putW_len (o : List (List UInt8)) (x : List UInt8) : o.length ≤ (putW o x).length := by unfold putW; split <;> simp
theorem fold_len (l o : List (List UInt8)) : o.length ≤ (l.foldl putW o).length := by
  induction l generalizing o with
  | nil => exact Nat.le_refl _
  | cons x l ih => exact Nat.le_trans (putW_len o x) (ih _)
theorem restL_len (k : Nat) (b : List (List UInt8)) (x : List UInt8) : (restL k b x).length ≤ b.length := by
  unfold restL; split
  · rw [List.length_take]; omega
  · exact Nat.le_refl _
theorem SV.take {w : World} {B : Nat} {A : Option Addr} {n c : Nat} {l : List (List UInt8)} (h : SV w B (.slice A n c) (wsv l)) (j : Nat) (hj : j ≤ l.length) : SV w B (.slice A j c) (wsv (l.take j)) := by
  obtain ⟨A', c', e, h1, h2, h3, h4⟩ := h
  injection e with e1 e2 e3
  subst e1; subst e3
  rw [List.length_map] at h1
  have hlen : (wsv (l.take j)).length = j := by simp; omega
  refine ⟨A, c, by rw [hlen], by rw [hlen]; omega, h2, ?_, h4⟩
  have e : wsv (l.take j) = (wsv l).take j := List.map_take ..
  rw [e]
  exact h3.take j

theorem SlAt.lit (w : World) (t : TypeId) (xs : List Value) : SlAt (w.alloc (.cells xs.toArray t)) (w.heap.size + 1) (some ⟨w.heap.size, 0, none⟩) xs :=
  .inr ⟨_, _, rfl, by omega, fun j u hu => by
    rw [Nat.zero_add, (Blk.new w t xs.toArray).cell j]
    simpa using hu⟩

def CatPost (w : World) (D : List (List UInt8)) (e : Ending) (w' : World) : Prop :=
  ((D.length ≤ 4096 ∧ ∃ x, e = .returned (.tuple #[x, .bool true]) ∧ Own w' w.heap.size 9 x (wsv (srt D))) ∨ (4096 < D.length ∧ e = .returned (.tuple #[.slice none 0 0, .bool false]))) ∧ Below w.heap.size w w'

set_option maxHeartbeats 2000000 in
set_option maxRecDepth 8000 in
theorem wscat_any (k : Nat) (hk : k ≤ 1000) (v1 v2 : Value) (a b : List (List UInt8)) (w : World) (h1 : SV w w.heap.size v1 (wsv a)) (h2 : SV w w.heap.size v2 (wsv b)) (ha : a.length ≤ 100000) (hb : b.length ≤ 100000)
    (hx : ∀ x ∈ a, x.length ≤ 100000) (hy : ∀ y ∈ b, y.length ≤ 100000) :
    Calls Try.prog 76 #[.int .i64 k, v1, v2] w (CatPost w (prodL k a b)) := by
  have eg := enters_of Try.func116 (by kernel_rfl) rfl
  obtain ⟨A1, c1, rfl, f1, f2, f3, f4⟩ := id h1
  obtain ⟨A2, c2, rfl, g1, g2, g3, g4⟩ := id h2
  have e1 : (wsv a).length = a.length := by simp
  have e2 : (wsv b).length = b.length := by simp
  rw [e1] at f1 h1 ⊢
  rw [e2] at g1 h2 ⊢
  have H1 := hide f3; have H2 := hide h2; have Hx := hide hx; have Hy := hide hy
  have hmm := @run_makeMap Try.prog
  have HS0 := hide (CatSt.start w)
  clear h1 h2 f3 f4 g3 g4 hx hy e1 e2
  go_enter Try.func76, Try.ntmps76
  go_wp2_with fail
  clear hmm
  go_loopw [20] (fun i V => ∃ W, W = V ∧ ∃ j n : Nat, j ≤ a.length ∧ i = .int .i64 j ∧ n ≤ j * 100000 ∧ CatSt w W n ((putsL k (a.take j) b).foldl putW []) ∧ ((putsL k (a.take j) b).foldl putW []).length ≤ 4096) (fun i _ => a.length - (intOf i).toNat)
  case atStart => exact ⟨_, rfl, 0, 0, by omega, rfl, by omega, HS0.out, by simp [putsL]⟩
  case round =>
    clear HS0
    obtain ⟨W, rfl, i, n, hi, rfl, hn, hst, hle⟩ := hrel
    by_cases hlt : i < a.length
    · obtain ⟨b1, off1, rfl, hb1, hcs⟩ := H1.out.at_ (k := i) (by simpa using hlt)
      have d1 := (hst.2.2.2.1.cell (p := ⟨b1, off1 + i, none⟩) hb1).trans (hcs i _ (wsv_at a i hlt))
      clear hcs
      have hxl := Hx.out _ (List.getElem_mem hlt)
      have hxs : (⟨a[i].toArray⟩ : ByteArray).size = a[i].length := by simp [ByteArray.size]
      obtain ⟨O, hO⟩ : ∃ O, O = (putsL k (a.take i) b).foldl putW [] := ⟨_, rfl⟩
      have Hnext : Hid ((putsL k (a.take (i + 1)) b).foldl putW [] = ((restL k b a[i]).map fun y => (a[i] ++ y).take k).foldl putW O) := by
        rw [Hid, List.take_succ_eq_append_getElem hlt, putsL, List.flatMap_append, List.foldl_append, hO]; simp [putsL]
      have Hall : Hid (∃ tl : List (List UInt8), prodL k a b = tl.foldl putW (((restL k b a[i]).map fun y => (a[i] ++ y).take k).foldl putW O)) := by
        refine ⟨putsL k (a.drop (i + 1)) b, ?_⟩
        rw [← Hnext.out, ← List.foldl_append]
        unfold prodL putsL
        rw [← List.flatMap_append, List.take_append_drop]
      rw [← hO] at hst hle
      have hrl := restL_len k b a[i]
      have HSt := hide hst
      clear hst hO
      generalize hXX : (⟨a[i].toArray⟩ : ByteArray) = X at d1 hxs
      have HX := hide hXX
      clear hXX
      obtain ⟨R, hRe⟩ : ∃ R, R = restL k b a[i] := ⟨_, rfl⟩
      have HRe := hide hRe
      rw [← hRe] at Hnext Hall hrl
      have HyR : Hid (∀ y ∈ R, y.length ≤ 100000) := by
        intro y hy
        rw [hRe] at hy
        unfold restL at hy
        split at hy
        · exact Hy.out y (List.mem_of_mem_take hy)
        · exact Hy.out y hy
      have Hput : Hid (∀ j (h : j < R.length), (((R.take (j + 1)).map fun y => (a[i] ++ y).take k).foldl putW O) = putW (((R.take j).map fun y => (a[i] ++ y).take k).foldl putW O) ((a[i] ++ R[j]).take k)) := by
        intro j h
        rw [List.take_succ_eq_append_getElem h, List.map_append, List.foldl_append]; rfl
      have Hcut : Hid (∀ j, (((R.take j).map fun y => (a[i] ++ y).take k).foldl putW O).length ≤ (prodL k a b).length) := by
        intro j
        obtain ⟨tl, htl⟩ := Hall.out
        rw [htl]
        have e : R.map (fun y => (a[i] ++ y).take k) = (R.take j).map (fun y => (a[i] ++ y).take k) ++ (R.drop j).map (fun y => (a[i] ++ y).take k) := by
          rw [← List.map_append, List.take_append_drop]
        rw [e, List.foldl_append]
        exact Nat.le_trans (fold_len _ _) (fold_len _ _)
      have hcase : (k ≤ a[i].length ∧ 0 < b.length) ∨ ¬ (k ≤ a[i].length ∧ 0 < b.length) := Classical.em _
      rcases hcase with hg | hg
      · have hkx : (k : Int) ≤ a[i].length := by omega
        have hre : R = b.take 1 := hRe.trans (if_pos hg)
        have HR := hide (H2.out.take 1 (by omega))
        rw [← hre] at HR
        have hRl : R.length = 1 := by rw [hre, List.length_take]; omega
        clear hRe hre
        go_wp2_with fail
        all_goals first | (exfalso; omega) | skip
        go_loopw [38] (fun i' V => ∃ U, U = V ∧ ∃ j m : Nat, j ≤ R.length ∧ i' = .int .i64 j ∧ m ≤ n + j ∧ CatSt w U m (((R.take j).map fun y => (a[i] ++ y).take k).foldl putW O) ∧ (((R.take j).map fun y => (a[i] ++ y).take k).foldl putW O).length ≤ 4096) (fun i' _ => R.length - (intOf i').toNat)
        case atStart => exact ⟨_, rfl, 0, n, by omega, rfl, by omega, HSt.out, hle⟩
        case round =>
          clear HSt d1
          obtain ⟨U, rfl, j, m, hj, rfl, hm, hst, hle2⟩ := hrel
          by_cases hlt2 : j < R.length
          · obtain ⟨A', c', eR, r1, r2, r3, r4⟩ := HR.out
            injection eR with eA eL eC
            subst eA; subst eC
            obtain ⟨b2, off2, rfl, hb2, hcs2⟩ := r3.at_ (k := j) (by simpa using hlt2)
            have d2 := (hst.2.2.2.1.cell (p := ⟨b2, off2 + j, none⟩) hb2).trans (hcs2 j _ (wsv_at R j hlt2))
            have hyl := HyR.out _ (List.getElem_mem hlt2)
            obtain ⟨Q, hQ⟩ : ∃ Q, Q = ((R.take j).map fun y => (a[i] ++ y).take k).foldl putW O := ⟨_, rfl⟩
            have Hnx := hide (Hput.out j hlt2)
            have Hct := hide (Hcut.out (j + 1))
            rw [Hnx.out] at Hct
            rw [← hQ] at hst hle2 Hnx Hct
            have hcatc := wcat_any k a[i] R[j] ⟨U.heap.size, 0, none⟩ 2 (U.alloc (.cells #[.string ⟨a[i].toArray⟩, .string ⟨R[j].toArray⟩] 9)) ((SlAt.lit U 9 (wsv [a[i], R[j]])).more (by simp)) (by omega) (by omega)
            rw [Int.toNat_natCast] at hcatc
            have hcl := cat1_any w (U.alloc (.cells #[.string ⟨a[i].toArray⟩, .string ⟨R[j].toArray⟩] 9)) m Q ((a[i] ++ R[j]).take k) (hst.alloc _) (by rw [List.length_take]; omega) (by omega) (by omega)
            rw [HX.out] at hcatc hcl
            generalize hYY : (⟨R[j].toArray⟩ : ByteArray) = Y at d2 hcatc hcl
            generalize hZZ : (⟨((a[i] ++ R[j]).take k).toArray⟩ : ByteArray) = Z at hcatc hcl
            have Hcatc := hide hcatc; have Hcl := hide hcl; have Hst := hide hst
            clear hcs2 hcatc hcl hst hYY hZZ hQ r1 r2 r3 r4 eL
            by_cases hfull : (putW Q ((a[i] ++ R[j]).take k)).length ≤ 4096
            · rw [decide_eq_true hfull] at Hcl
              go_wp2_with (first
                | (go_at_call 117; refine Hcatc.out.mono ?_; rintro e w' ⟨rfl, rfl⟩)
                | ((with_reducible refine calls_id ?_); refine Hcl.out.mono ?_; rintro e w' ⟨rfl, hst3⟩))
              all_goals first | (exfalso; omega) | skip
              go_roundw
              case rel => exact ⟨_, rfl, j + 1, m + 1, by omega, by go_num, by omega, by rw [Hnx.out]; exact hst3, by rw [Hnx.out]; exact hfull⟩
              case measure => simp [intOf]; omega
            · rw [decide_eq_false hfull] at Hcl
              go_wp2_with (first
                | (go_at_call 117; refine Hcatc.out.mono ?_; rintro e w' ⟨rfl, rfl⟩)
                | ((with_reducible refine calls_id ?_); refine Hcl.out.mono ?_; rintro e w' ⟨rfl, hst3⟩))
              all_goals first | (exfalso; omega) | skip
              go_ret2
              exact ⟨.inr ⟨by have := Hct.out; omega, rfl⟩, hst3.2.2.2.1⟩
          · obtain rfl : j = R.length := by omega
            rw [List.take_length] at hst hle2
            go_wp2_with fail
            all_goals first | (exfalso; omega) | skip
            go_roundw
            case rel => exact ⟨_, rfl, i + 1, m, by omega, by go_num, by omega, by rw [Hnext.out]; exact hst, by rw [Hnext.out]; exact hle2⟩
            case measure => simp [intOf]; omega
      · have hkx : ¬ ((k : Int) ≤ a[i].length ∧ (0 : Int) < b.length) := by omega
        have hre : R = b := hRe.trans (if_neg hg)
        have HR := hide H2.out
        have hRl : R.length = b.length := by rw [hre]
        have HR : Hid (SV w w.heap.size (.slice A2 b.length c2) (wsv R)) := by rw [hre]; exact H2.out
        clear hRe hre
        by_cases hk1 : (k : Int) ≤ a[i].length
        · have hR0 : R.length = 0 := by omega
          go_wp2_with fail
          all_goals first | (exfalso; omega) | skip
          go_loopw [38] (fun i' V => ∃ U, U = V ∧ ∃ j m : Nat, j ≤ R.length ∧ i' = .int .i64 j ∧ m ≤ n + j ∧ CatSt w U m (((R.take j).map fun y => (a[i] ++ y).take k).foldl putW O) ∧ (((R.take j).map fun y => (a[i] ++ y).take k).foldl putW O).length ≤ 4096) (fun i' _ => R.length - (intOf i').toNat)
          case atStart => exact ⟨_, rfl, 0, n, by omega, rfl, by omega, HSt.out, hle⟩
          case round =>
            clear HSt d1
            obtain ⟨U, rfl, j, m, hj, rfl, hm, hst, hle2⟩ := hrel
            have hlt2 : ¬ j < R.length := by omega
            obtain rfl : j = R.length := by omega
            rw [List.take_length] at hst hle2
            go_wp2_with fail
            all_goals first | (exfalso; omega) | skip
            go_roundw
            case rel => exact ⟨_, rfl, i + 1, m, by omega, by go_num, by omega, by rw [Hnext.out]; exact hst, by rw [Hnext.out]; exact hle2⟩
            case measure => simp [intOf]; omega
        · go_wp2_with fail
          all_goals first | (exfalso; omega) | skip
          go_loopw [38] (fun i' V => ∃ U, U = V ∧ ∃ j m : Nat, j ≤ R.length ∧ i' = .int .i64 j ∧ m ≤ n + j ∧ CatSt w U m (((R.take j).map fun y => (a[i] ++ y).take k).foldl putW O) ∧ (((R.take j).map fun y => (a[i] ++ y).take k).foldl putW O).length ≤ 4096) (fun i' _ => R.length - (intOf i').toNat)
          case atStart => exact ⟨_, rfl, 0, n, by omega, rfl, by omega, HSt.out, hle⟩
          case round =>
            clear HSt d1
            obtain ⟨U, rfl, j, m, hj, rfl, hm, hst, hle2⟩ := hrel
            by_cases hlt2 : j < R.length
            · obtain ⟨A', c', eR, r1, r2, r3, r4⟩ := HR.out
              injection eR with eA eL eC
              subst eA; subst eC
              obtain ⟨b2, off2, rfl, hb2, hcs2⟩ := r3.at_ (k := j) (by simpa using hlt2)
              have d2 := (hst.2.2.2.1.cell (p := ⟨b2, off2 + j, none⟩) hb2).trans (hcs2 j _ (wsv_at R j hlt2))
              have hyl := HyR.out _ (List.getElem_mem hlt2)
              obtain ⟨Q, hQ⟩ : ∃ Q, Q = ((R.take j).map fun y => (a[i] ++ y).take k).foldl putW O := ⟨_, rfl⟩
              have Hnx := hide (Hput.out j hlt2)
              have Hct := hide (Hcut.out (j + 1))
              rw [Hnx.out] at Hct
              rw [← hQ] at hst hle2 Hnx Hct
              have hcatc := wcat_any k a[i] R[j] ⟨U.heap.size, 0, none⟩ 2 (U.alloc (.cells #[.string ⟨a[i].toArray⟩, .string ⟨R[j].toArray⟩] 9)) ((SlAt.lit U 9 (wsv [a[i], R[j]])).more (by simp)) (by omega) (by omega)
              rw [Int.toNat_natCast] at hcatc
              have hcl := cat1_any w (U.alloc (.cells #[.string ⟨a[i].toArray⟩, .string ⟨R[j].toArray⟩] 9)) m Q ((a[i] ++ R[j]).take k) (hst.alloc _) (by rw [List.length_take]; omega) (by omega) (by omega)
              rw [HX.out] at hcatc hcl
              generalize hYY : (⟨R[j].toArray⟩ : ByteArray) = Y at d2 hcatc hcl
              generalize hZZ : (⟨((a[i] ++ R[j]).take k).toArray⟩ : ByteArray) = Z at hcatc hcl
              have Hcatc := hide hcatc; have Hcl := hide hcl; have Hst := hide hst
              clear hcs2 hcatc hcl hst hYY hZZ hQ r1 r2 r3 r4 eL
              by_cases hfull : (putW Q ((a[i] ++ R[j]).take k)).length ≤ 4096
              · rw [decide_eq_true hfull] at Hcl
                go_wp2_with (first
                  | (go_at_call 117; refine Hcatc.out.mono ?_; rintro e w' ⟨rfl, rfl⟩)
                  | ((with_reducible refine calls_id ?_); refine Hcl.out.mono ?_; rintro e w' ⟨rfl, hst3⟩))
                all_goals first | (exfalso; omega) | skip
                go_roundw
                case rel => exact ⟨_, rfl, j + 1, m + 1, by omega, by go_num, by omega, by rw [Hnx.out]; exact hst3, by rw [Hnx.out]; exact hfull⟩
                case measure => simp [intOf]; omega
              · rw [decide_eq_false hfull] at Hcl
                go_wp2_with (first
                  | (go_at_call 117; refine Hcatc.out.mono ?_; rintro e w' ⟨rfl, rfl⟩)
                  | ((with_reducible refine calls_id ?_); refine Hcl.out.mono ?_; rintro e w' ⟨rfl, hst3⟩))
                all_goals first | (exfalso; omega) | skip
                go_ret2
                exact ⟨.inr ⟨by have := Hct.out; omega, rfl⟩, hst3.2.2.2.1⟩
            · obtain rfl : j = R.length := by omega
              rw [List.take_length] at hst hle2
              go_wp2_with fail
              all_goals first | (exfalso; omega) | skip
              go_roundw
              case rel => exact ⟨_, rfl, i + 1, m, by omega, by go_num, by omega, by rw [Hnext.out]; exact hst, by rw [Hnext.out]; exact hle2⟩
              case measure => simp [intOf]; omega
    · obtain rfl : i = a.length := by omega
      rw [List.take_length] at hst hle
      obtain ⟨hm1, ⟨v, hq, hown⟩, -, hb3, hsz3⟩ := hst
      have c5 := hq.cell 0
      have HO := hide (SV.of_own hown)
      have Hb3 := hide hb3
      have hD : (putsL k a b).foldl putW [] = prodL k a b := rfl
      rw [hD] at hle HO
      have hwo := hide (wof_any v (prodL k a b) W HO.out (by omega))
      clear hm1 hq hown hb3
      go_wp2_with (go_at_call 113; refine hwo.out.mono ?_; rintro e W2 ⟨⟨y, rfl, ho2⟩, hb2⟩; have HO2 := hide ho2; have Hb2 := hide hb2; clear ho2 hb2)
      go_ret2
      exact ⟨.inl ⟨hle, _, rfl, HO2.out.mono Hb3.out.size⟩, Hb3.out.trans (Hb2.out.mono Hb3.out.size)⟩
end Go.Proofs.Ythpjjlmgdalpaaa
