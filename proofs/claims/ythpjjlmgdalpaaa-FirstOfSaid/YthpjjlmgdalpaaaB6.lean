/- ref14.Valid. -/
import Derived.Test.YthpjjlmgdalpaaaB5
namespace Go.Proofs.Ythpjjlmgdalpaaa
open Go.RowKit

theorem quiet_same {P : Program} {f : FuncId} {args : Array Value} {v : Value} {w : World} (h : ∀ W : World, W.heap = w.heap → Calls P f args W fun e w' => e = .returned v ∧ W = w') (n : Nat) :
    Calls P f args (w.drewN n) fun e w'' => e = .returned v ∧ ∃ m, w'' = w.drewN m :=
  Calls.quiet_of ((h (w.drewN n) rfl).mono fun _ _ ⟨h1, h2⟩ => ⟨h1, 0, h2.symm⟩)

/-- A world behind one in which a value was boxed, with nothing older touched. -/
def Bx (w : World) (cs : Array Value) (T : TypeId) (W : World) : Prop := Below (w.heap.size + 1) (w.alloc (.cells cs T)) W
section
variable {w W W' : World} {cs : Array Value} {T : TypeId}
theorem Bx.self : Bx w cs T (w.alloc (.cells cs T)) := Below.refl _ _
theorem Bx.cell (h : Bx w cs T W) : ∀ i, W.cell? ⟨w.heap.size, i, none⟩ = cs[i]? := boxed h
theorem Bx.lt (h : Bx w cs T W) : w.heap.size < W.heap.size := by
  have h1 := Below.size h
  have e : (w.alloc (.cells cs T)).heap.size = w.heap.size + 1 := by simp
  rw [e] at h1; omega
theorem Bx.below (h : Bx w cs T W) : Below w.heap.size w W := ((Below.refl w.heap.size w).alloc (Nat.le_refl _) _).trans (h.mono (by omega))
theorem Bx.alloc (h : Bx w cs T W) (o : Obj) : Bx w cs T (W.alloc o) := Below.alloc h h.lt o
theorem Bx.drewN (h : Bx w cs T W) (n : Nat) : Bx w cs T (W.drewN n) := bdrew h n
theorem Bx.drew (h : Bx w cs T W) : Bx w cs T W.drew := bdrew h 1
theorem Bx.call (h : Bx w cs T W) (hc : Below W.heap.size W W') : Bx w cs T W' := Below.trans h (hc.mono h.lt)
end

def FitsR (g : G) (r : Rule) : Prop := 0 ≤ r.left ∧ r.left < g.names.length ∧ r.right.length ≤ 64 ∧ ∀ s ∈ r.right, s < g.names.length ∧ -(g.terms.length : Int) ≤ s
/-- A grammar that may be. -/
structure VG (g : G) : Prop where
  n1 : 1 ≤ g.names.length
  sy : g.names.length + g.terms.length ≤ 256
  rl : g.rules.length ≤ 4096
  nn : ∀ s ∈ g.names, nameB s.data.toList = true
  nd : g.names.Nodup
  tn : ∀ s ∈ g.terms, termB s.data.toList = true
  td : g.terms.Nodup
  ru : ∀ r ∈ g.rules, FitsR g r
  has : ∀ i : Nat, i < g.names.length → ∃ r ∈ g.rules, r.left = i
  tw : g.rules.Nodup

theorem idx_get {α : Type} [DecidableEq α] (l : List α) (s : α) (h : idx l s < l.length) : l[idx l s] = s := by
  have := List.findIdx_getElem (w := h)
  exact of_decide_eq_true this
theorem nodup_idx {α : Type} [DecidableEq α] (l : List α) : l.Nodup ↔ ∀ i (h : i < l.length), idx l l[i] = i := by
  unfold List.Nodup
  rw [List.pairwise_iff_getElem]
  constructor
  · intro h i hi
    apply idx_stop l l[i] i hi _ rfl
    intro hm
    obtain ⟨j, hj, e⟩ := List.mem_iff_getElem.1 hm
    rw [List.length_take] at hj
    rw [List.getElem_take] at e
    exact h j i (by omega) hi (by omega) e
  · intro h i j hi hj hij e
    have h1 := h i hi
    have h2 := h j hj
    rw [e, h2] at h1
    omega
theorem findI_mem (l : List ByteArray) (i : Nat) (h : i < l.length) : findI l l[i] = idx l l[i] := by
  unfold findI; rw [if_pos ((idx_lt _ _).2 (List.getElem_mem _))]

theorem ex_step {rs : List Rule} {i : Int} {b : Bool} {k : Nat} (hk2 : k < rs.length) (hex : b = true ↔ ∃ a, ∃ h : a < rs.length, a < k ∧ rs[a].left = i) (hne : rs[k].left ≠ i) :
    b = true ↔ ∃ a, ∃ h : a < rs.length, a < k + 1 ∧ rs[a].left = i := by
  rw [hex]
  constructor
  · rintro ⟨a, h, h1, h2⟩; exact ⟨a, h, by omega, h2⟩
  · rintro ⟨a, h, h1, h2⟩
    refine ⟨a, h, ?_, h2⟩
    rcases Nat.lt_or_ge a k with h3 | h3
    · exact h3
    · obtain rfl : a = k := by omega
      exact absurd h2 hne

set_option maxHeartbeats 4000000 in
set_option maxRecDepth 8000 in
theorem valid14_any (v : GV) (g : G) (w : World) (hg : GAt w w.heap.size v g) (hsm : g.names.length ≤ 1000000 ∧ g.terms.length ≤ 1000000) : Calls Try.prog 17 #[.agg #[.slice v.An g.names.length v.cn, .slice v.At g.terms.length v.ct, .slice v.Ar g.rules.length v.cr]] w fun e w' => e = .returned (.bool (bool (VG g))) ∧ Below w.heap.size w w' := by
  obtain ⟨An, cn, At, ct, Ar, cr⟩ := v
  obtain ⟨gn, gt, gr, hn, ht, hr, sn, st, sr⟩ := hg
  dsimp only at gn gt gr hn ht hr
  have hno : ∀ W, Bx w #[.slice An g.names.length cn, .slice At g.terms.length ct, .slice Ar g.rules.length cr] 25 W → ¬ VG g → (Ending.returned (.bool false) = .returned (.bool (bool (VG g))) ∧ Below w.heap.size w W) := fun W h1 h2 => ⟨ret_b (bool_false h2).symm, h1.below⟩
  have Hno := hide hno; have Hn := hide gn; have Ht := hide gt; have Hr := hide gr
  have Hsn := hide sn; have Hst := hide st; have Hsr := hide sr
  clear hno gn gt gr sn st sr
  by_cases hf : (1 ≤ g.names.length ∧ g.names.length + g.terms.length ≤ 256) ∧ g.rules.length ≤ 4096
  · obtain ⟨⟨h1, h2⟩, h3⟩ := hf
    have w1 : IntKind.i64.wrap ((g.names.length : Int) + g.terms.length) = g.names.length + g.terms.length := IntWalk.i64_in _ (by omega)
    go_enter Try.func17, Try.ntmps17
    go_wp2
    all_goals first | (exfalso; omega) | skip
    go_loopw [3] (fun i V => ∃ W, W = V ∧ Bx w #[.slice An g.names.length cn, .slice At g.terms.length ct, .slice Ar g.rules.length cr] 25 W ∧ ∃ k : Nat, k ≤ g.names.length ∧ i = .int .i64 k ∧ Hid (∀ a (h : a < g.names.length), a < k → nameB g.names[a].data.toList = true ∧ idx g.names g.names[a] = a ∧ ∃ r ∈ g.rules, r.left = a)) (fun i _ => g.names.length - (intOf i).toNat)
    case atStart => exact ⟨_, rfl, Bx.self, 0, Nat.zero_le _, rfl, fun _ _ h => absurd h (by omega)⟩
    case round =>
      obtain ⟨W, rfl, hbx, i, hi, rfl, hall⟩ := hrel
      have cG := hbx.cell
      have hsz := hbx.lt
      by_cases hlt : i < g.names.length
      · obtain ⟨b, off, rfl, hb, hcs⟩ := Hn.out.at_ (k := i) (by simpa using hlt)
        have c1 : W.cell? ⟨b, off + i, none⟩ = some (.string g.names[i]) := (hbx.below.cell hb).trans (hcs i _ (strs_at g.names i hlt))
        have s1 := Hsn.out _ (List.getElem_mem hlt)
        have Hf : Hid (∀ W' : World, W'.heap = W.heap → Calls Try.prog 50 #[.slice (some ⟨b, off, none⟩) g.names.length cn, .string g.names[i]] W' fun e w' => e = .returned (.int .i64 (idx g.names g.names[i])) ∧ W' = w') := by
          intro W' hW'
          have hS : SlAt W' W'.heap.size (some ⟨b, off, none⟩) (strs g.names) := ((Hn.out.below hbx.below).heap hW').more (by rw [hW']; omega)
          have := find_any (some ⟨b, off, none⟩) cn g.names g.names[i] W' hS hn.1 hn.2
          rw [findI_mem _ _ hlt] at this
          exact this
        have Hb := hide hbx
        clear hcs hbx
        have w2 : IntKind.i64.wrap ((i : Int)) = i := IntWalk.i64_in _ (by omega)
        cases hna : nameB g.names[i].data.toList
        · have hno := hide (show ¬ VG g from fun h => absurd (h.nn _ (List.getElem_mem hlt)) (by rw [hna]; exact Bool.false_ne_true))
          have Hc : Hid (∀ W' : World, W'.heap = W.heap → Calls Try.prog 49 #[.string g.names[i]] W' fun e w' => e = .returned (.bool false) ∧ W' = w') := by
            intro W' _; have := name12_any g.names[i] W' s1; rw [hna] at this; exact this
          clear hna
          go_wp2_with (go_quiet ((first | (go_at_call 49; exact quiet_same Hc.out _) | (go_at_call 50; exact quiet_same Hf.out _))))
          go_ret
          exact Hno.out _ (Hb.out.drewN _) hno.out
        · have Hc : Hid (∀ W' : World, W'.heap = W.heap → Calls Try.prog 49 #[.string g.names[i]] W' fun e w' => e = .returned (.bool true) ∧ W' = w') := by
            intro W' _; have := name12_any g.names[i] W' s1; rw [hna] at this; exact this
          have Hna := hide hna
          clear hna
          by_cases hd : idx g.names g.names[i] = i
          · rw [hd] at Hf
            have Hd := hide hd
            clear hd
            have hd' : decide ((i : Int) = i) = true := decide_eq_true rfl
            go_wp2_with (go_quiet ((first | (go_at_call 49; exact quiet_same Hc.out _) | (go_at_call 50; exact quiet_same Hf.out _))))
            go_loopw [4, 5] (fun x y V => ∃ m : Nat, W.drewN m = V ∧ ∃ (hb : Bool) (k : Nat), k ≤ g.rules.length ∧ x = .bool hb ∧ y = .int .i64 k ∧ Hid (hb = true ↔ ∃ a, ∃ h : a < g.rules.length, a < k ∧ g.rules[a].left = i)) (fun _ y _ => g.rules.length - (intOf y).toNat)
            case atStart => exact ⟨_, rfl, false, 0, Nat.zero_le _, rfl, rfl, by simp [Hid]⟩
            case round =>
              obtain ⟨m, rfl, hb1, k, hk, rfl, rfl, hex⟩ := hrel
              by_cases hk2 : k < g.rules.length
              · obtain ⟨rb, roff, rfl, hrb, C, c, k1, k2, k3, k4⟩ := Hr.out.at_ hk2
                have q1 : W.cell? ⟨rb, roff + k * 2, none⟩ = some (.int .i64 g.rules[k].left) := (Hb.out.below.cell hrb).trans k1
                clear k1 k2 k3 k4
                by_cases he : g.rules[k].left = i
                · have he' := hide he
                  go_wp2
                  all_goals first | (exfalso; omega) | skip
                  go_roundw
                  case rel => exact ⟨_, rfl, true, k + 1, by omega, rfl, by go_num, by rw [Hid]; exact ⟨fun _ => ⟨k, hk2, by omega, he'.out⟩, fun _ => rfl⟩⟩
                  case measure => simp [intOf]; omega
                · have he' := hide he
                  go_wp2
                  all_goals first | (exfalso; omega) | skip
                  go_roundw
                  case rel =>
                    refine ⟨_, rfl, hb1, k + 1, by omega, rfl, by go_num, ex_step hk2 hex.out he'.out⟩
                  case measure => simp [intOf]; omega
              · obtain rfl : k = g.rules.length := by omega
                cases hb1
                · have hno := hide (show ¬ VG g from fun h => by
                    obtain ⟨r, hr1, hr2⟩ := h.has i hlt
                    obtain ⟨a, ha, rfl⟩ := List.mem_iff_getElem.1 hr1
                    exact Bool.false_ne_true (hex.out.2 ⟨a, ha, ha, hr2⟩))
                  go_wp2
                  go_ret
                  exact Hno.out _ (Hb.out.drewN _) hno.out
                · go_wp2
                  go_roundw
                  case rel =>
                    refine ⟨_, rfl, Hb.out.drewN _, i + 1, by omega, by go_num, fun a ha hai => ?_⟩
                    by_cases e : a = i
                    · subst e
                      obtain ⟨q, hq, _, h2⟩ := hex.out.1 rfl
                      exact ⟨Hna.out, Hd.out, _, List.getElem_mem hq, h2⟩
                    · exact hall.out a ha (by omega)
                  case measure => simp [intOf]; omega
          · have hno := hide (show ¬ VG g from fun h => hd ((nodup_idx _).1 h.nd i hlt))
            have hd' : decide (((idx g.names g.names[i] : Nat) : Int) = i) = false := decide_eq_false (by omega)
            go_wp2_with (go_quiet ((first | (go_at_call 49; exact quiet_same Hc.out _) | (go_at_call 50; exact quiet_same Hf.out _))))
            go_ret
            exact Hno.out _ (Hb.out.drewN _) hno.out
      · obtain rfl : i = g.names.length := by omega
        have HN : Hid ((∀ s ∈ g.names, nameB s.data.toList = true) ∧ g.names.Nodup ∧ ∀ i : Nat, i < g.names.length → ∃ r ∈ g.rules, r.left = i) := by
          refine ⟨fun s hs => ?_, (nodup_idx _).2 fun a ha => (hall.out a ha ha).2.1, fun a ha => (hall.out a ha ha).2.2⟩
          obtain ⟨a, ha, rfl⟩ := List.mem_iff_getElem.1 hs
          exact (hall.out a ha ha).1
        have Hb := hide hbx
        clear hbx hall hi hlt
        go_wp2
        go_loopw [6] (fun i V => ∃ W, W = V ∧ Bx w #[.slice An g.names.length cn, .slice At g.terms.length ct, .slice Ar g.rules.length cr] 25 W ∧ ∃ k : Nat, k ≤ g.terms.length ∧ i = .int .i64 k ∧ Hid (∀ a (h : a < g.terms.length), a < k → termB g.terms[a].data.toList = true ∧ idx g.terms g.terms[a] = a)) (fun i _ => g.terms.length - (intOf i).toNat)
        case atStart => exact ⟨_, rfl, Hb.out, 0, Nat.zero_le _, rfl, fun _ _ h => absurd h (by omega)⟩
        case round =>
          clear Hb cG hsz
          obtain ⟨W, rfl, hbx, i, hi, rfl, hall⟩ := hrel
          have cG := hbx.cell
          have hsz := hbx.lt
          by_cases hlt : i < g.terms.length
          · obtain ⟨b, off, rfl, hb, hcs⟩ := Ht.out.at_ (k := i) (by simpa using hlt)
            have c1 : W.cell? ⟨b, off + i, none⟩ = some (.string g.terms[i]) := (hbx.below.cell hb).trans (hcs i _ (strs_at g.terms i hlt))
            have s1 := Hst.out _ (List.getElem_mem hlt)
            have Hf : Hid (∀ W' : World, W'.heap = W.heap → Calls Try.prog 50 #[.slice (some ⟨b, off, none⟩) g.terms.length ct, .string g.terms[i]] W' fun e w' => e = .returned (.int .i64 (idx g.terms g.terms[i])) ∧ W' = w') := by
              intro W' hW'
              have hS : SlAt W' W'.heap.size (some ⟨b, off, none⟩) (strs g.terms) := ((Ht.out.below hbx.below).heap hW').more (by rw [hW']; omega)
              have := find_any (some ⟨b, off, none⟩) ct g.terms g.terms[i] W' hS ht.1 ht.2
              rw [findI_mem _ _ hlt] at this
              exact this
            have Hb := hide hbx
            clear hcs hbx
            have w2 : IntKind.i64.wrap ((i : Int)) = i := IntWalk.i64_in _ (by omega)
            cases hna : termB g.terms[i].data.toList
            · have hno := hide (show ¬ VG g from fun h => absurd (h.tn _ (List.getElem_mem hlt)) (by rw [hna]; exact Bool.false_ne_true))
              have Hc : Hid (∀ W' : World, W'.heap = W.heap → Calls Try.prog 51 #[.string g.terms[i]] W' fun e w' => e = .returned (.bool false) ∧ W' = w') := by
                intro W' _; have := term12_any g.terms[i] W' s1; rw [hna] at this; exact this
              clear hna
              go_wp2_with (go_quiet ((first | (go_at_call 51; exact quiet_same Hc.out _) | (go_at_call 50; exact quiet_same Hf.out _))))
              go_ret
              exact Hno.out _ (Hb.out.drewN _) hno.out
            · have Hc : Hid (∀ W' : World, W'.heap = W.heap → Calls Try.prog 51 #[.string g.terms[i]] W' fun e w' => e = .returned (.bool true) ∧ W' = w') := by
                intro W' _; have := term12_any g.terms[i] W' s1; rw [hna] at this; exact this
              have Hna := hide hna
              clear hna
              by_cases hd : idx g.terms g.terms[i] = i
              · rw [hd] at Hf
                have Hd := hide hd
                clear hd
                have hd' : decide ((i : Int) = i) = true := decide_eq_true rfl
                go_wp2_with (go_quiet ((first | (go_at_call 51; exact quiet_same Hc.out _) | (go_at_call 50; exact quiet_same Hf.out _))))
                go_roundw
                case rel =>
                  refine ⟨_, rfl, Hb.out.drewN _, i + 1, by omega, by go_num, fun a ha hai => ?_⟩
                  by_cases e : a = i
                  · subst e
                    exact ⟨Hna.out, Hd.out⟩
                  · exact hall.out a ha (by omega)
                case measure => simp [intOf]; omega
              · have hno := hide (show ¬ VG g from fun h => hd ((nodup_idx _).1 h.td i hlt))
                have hd' : decide (((idx g.terms g.terms[i] : Nat) : Int) = i) = false := decide_eq_false (by omega)
                go_wp2_with (go_quiet ((first | (go_at_call 51; exact quiet_same Hc.out _) | (go_at_call 50; exact quiet_same Hf.out _))))
                go_ret
                exact Hno.out _ (Hb.out.drewN _) hno.out
          · obtain rfl : i = g.terms.length := by omega
            have HT : Hid ((∀ s ∈ g.terms, termB s.data.toList = true) ∧ g.terms.Nodup) := by
              refine ⟨fun s hs => ?_, (nodup_idx _).2 fun a ha => (hall.out a ha ha).2⟩
              obtain ⟨a, ha, rfl⟩ := List.mem_iff_getElem.1 hs
              exact (hall.out a ha ha).1
            have Hb := hide hbx
            clear hbx hall hi hlt
            go_wp2
            go_loopw [7] (fun i V => ∃ W, W = V ∧ Bx w #[.slice An g.names.length cn, .slice At g.terms.length ct, .slice Ar g.rules.length cr] 25 W ∧ ∃ k : Nat, k ≤ g.rules.length ∧ i = .int .i64 k ∧ Hid (∀ a (h : a < g.rules.length), a < k → FitsR g g.rules[a])) (fun i _ => g.rules.length - (intOf i).toNat)
            case atStart => exact ⟨_, rfl, Hb.out, 0, Nat.zero_le _, rfl, fun _ _ h => absurd h (by omega)⟩
            case round =>
              clear Hb cG hsz
              obtain ⟨W, rfl, hbx, i, hi, rfl, hall⟩ := hrel
              have cG := hbx.cell
              have hsz := hbx.lt
              by_cases hlt : i < g.rules.length
              · obtain ⟨b, off, rfl, hb, C, c, k1, k2, k3, k4⟩ := Hr.out.at_ hlt
                have c1 := (hbx.below.cell hb).trans k1
                have c2 := (hbx.below.cell hb).trans k2
                have s1 := Hsr.out _ (List.getElem_mem hlt)
                have Hs := hide (k4.below hbx.below)
                have Hb := hide hbx
                clear hbx k1 k2 k4
                by_cases hfit : (0 ≤ g.rules[i].left ∧ g.rules[i].left < g.names.length) ∧ g.rules[i].right.length ≤ 64
                · have Hfit := hide hfit
                  obtain ⟨⟨f1, f2⟩, f3⟩ := hfit
                  go_wp2
                  all_goals first | (exfalso; omega) | skip
                  have Hb2 : Hid (Bx w #[.slice An g.names.length cn, .slice At g.terms.length ct, .slice (some ⟨b, off, none⟩) g.rules.length cr] 25 (W.alloc (.cells #[.int .i64 g.rules[i].left, .slice C g.rules[i].right.length c] 35))) := Hb.out.alloc _
                  go_loopw [9] (fun y V => ∃ U, U = V ∧ Hid (∃ m, U = (W.alloc (.cells #[.int .i64 g.rules[i].left, .slice C g.rules[i].right.length c] 35)).drewN m) ∧ ∃ k : Nat, k ≤ g.rules[i].right.length ∧ y = .int .i64 k ∧ Hid (∀ a (h : a < g.rules[i].right.length), a < k → g.rules[i].right[a] < g.names.length ∧ -(g.terms.length : Int) ≤ g.rules[i].right[a])) (fun y _ => g.rules[i].right.length - (intOf y).toNat)
                  case atStart => exact ⟨_, rfl, ⟨0, rfl⟩, 0, Nat.zero_le _, rfl, fun _ _ h => absurd h (by omega)⟩
                  case round =>
                    obtain ⟨U, rfl, hU, k, hk, rfl, hfs⟩ := hrel
                    have Hb3 : Hid (Bx w #[.slice An g.names.length cn, .slice At g.terms.length ct, .slice (some ⟨b, off, none⟩) g.rules.length cr] 25 U) := by
                      obtain ⟨m, rfl⟩ := hU.out; exact Hb2.out.drewN m
                    have cG := Hb3.out.cell
                    have cR : ∀ i', U.cell? ⟨W.heap.size, i', none⟩ = #[.int .i64 g.rules[i].left, .slice C g.rules[i].right.length c][i']? := by
                      obtain ⟨m, rfl⟩ := hU.out
                      exact (Blk.new W _ _).cell
                    by_cases hk2 : k < g.rules[i].right.length
                    · obtain ⟨b2, off2, rfl, hb2, hcs2⟩ := Hs.out.at_ (k := k) (by simpa using hk2)
                      have e1 : U.cell? ⟨b2, off2 + k, none⟩ = some (.int .i64 g.rules[i].right[k]) := by
                        obtain ⟨m, rfl⟩ := hU.out
                        exact (World.cell?_alloc_lt W _ _ (by show b2 < _; omega)).trans (hcs2 k _ (ints_at _ k hk2))
                      clear hcs2
                      by_cases g1 : (g.names.length : Int) ≤ g.rules[i].right[k]
                      · have g1' : decide ((g.names.length : Int) ≤ g.rules[i].right[k]) = true := decide_eq_true g1
                        have hno := hide (show ¬ VG g from fun h => absurd (((h.ru _ (List.getElem_mem hlt)).2.2.2 _ (List.getElem_mem hk2)).1) (by omega))
                        go_wp2_with (go_quiet (fail))
                        go_ret
                        exact Hno.out _ (Hb3.out.drewN _) hno.out
                      · have g1' : decide ((g.names.length : Int) ≤ g.rules[i].right[k]) = false := decide_eq_false g1
                        have wn : IntKind.i64.wrap (-(g.terms.length : Int)) = -(g.terms.length : Int) := IntWalk.i64_in _ (by omega)
                        by_cases g2 : g.rules[i].right[k] < -(g.terms.length : Int)
                        · have g2' : decide (g.rules[i].right[k] < -(g.terms.length : Int)) = true := decide_eq_true g2
                          have hno := hide (show ¬ VG g from fun h => absurd (((h.ru _ (List.getElem_mem hlt)).2.2.2 _ (List.getElem_mem hk2)).2) (by omega))
                          go_wp2_with (go_quiet (fail))
                          go_ret
                          exact Hno.out _ (Hb3.out.drewN _) hno.out
                        · have g2' : decide (g.rules[i].right[k] < -(g.terms.length : Int)) = false := decide_eq_false g2
                          go_wp2_with (go_quiet (fail))
                          go_roundw
                          case rel =>
                            refine ⟨_, rfl, by obtain ⟨m, rfl⟩ := hU.out; exact (by first | exact ⟨_, rfl⟩ | exact ⟨_, Go.World.drewN_drewN ..⟩ | exact ⟨0, rfl⟩), k + 1, by omega, by go_num, fun a ha hai => ?_⟩
                            by_cases e : a = k
                            · subst e
                              exact ⟨by omega, by omega⟩
                            · exact hfs.out a ha (by omega)
                          case measure => simp [intOf]; omega
                    · obtain rfl : k = g.rules[i].right.length := by omega
                      go_wp2
                      go_roundw
                      case rel =>
                        refine ⟨_, rfl, Hb3.out, i + 1, by omega, by go_num, fun a ha hai => ?_⟩
                        by_cases e : a = i
                        · subst e
                          refine ⟨Hfit.out.1.1, Hfit.out.1.2, Hfit.out.2, fun s hs => ?_⟩
                          obtain ⟨q, hq, rfl⟩ := List.mem_iff_getElem.1 hs
                          exact hfs.out q hq hq
                        · exact hall.out a ha (by omega)
                      case measure => simp [intOf]; omega
                · have hno := hide (show ¬ VG g from fun h => hfit (by obtain ⟨h1, h2, h3, _⟩ := h.ru _ (List.getElem_mem hlt); exact ⟨⟨h1, h2⟩, h3⟩))
                  go_wp2
                  all_goals first | (exfalso; omega) | skip
                  all_goals
                    go_ret
                    exact Hno.out _ (Hb.out.alloc _) hno.out
              · obtain rfl : i = g.rules.length := by omega
                have HT2 : Hid (Calls Try.prog 52 #[.slice Ar g.rules.length cr] W fun e w' => e = .returned (.bool (bool (¬ g.rules.Nodup))) ∧ ∃ m, w' = W.drewN m) :=
                  twice14_any Ar cr g.rules W ((Hr.out.keep (w' := W) fun _ hp => hbx.below.cell hp).more (by omega)) hr.1 hr.2 Hsr.out
                have HB := hide hbx
                clear hbx hsz
                go_wp2_with (go_at_call 52; refine HT2.out.mono ?_; rintro e w' ⟨rfl, m, rfl⟩)
                go_ret
                refine ⟨ret_b ?_, (HB.out.drewN _).below⟩
                rw [Bool.eq_iff_iff, bool_iff]
                cases hb : bool (¬ g.rules.Nodup)
                · have hnd : g.rules.Nodup := Classical.not_not.1 fun h => by rw [bool_true h] at hb; cases hb
                  obtain ⟨n1, n2, n3⟩ := HN.out
                  obtain ⟨t1, t2⟩ := HT.out
                  refine ⟨fun _ => ⟨h1, h2, h3, n1, n2, t1, t2, fun r hr => ?_, n3, hnd⟩, fun _ => rfl⟩
                  obtain ⟨q, hq, rfl⟩ := List.mem_iff_getElem.1 hr
                  exact hall.out q hq hq
                · exact ⟨fun h => absurd h Bool.false_ne_true, fun h => absurd h.tw ((bool_iff _).1 hb)⟩
  · have hno := hide (show ¬ VG g from fun h => hf ⟨⟨h.n1, h.sy⟩, h.rl⟩)
    have Hb := hide (Bx.self (w := w) (cs := #[.slice An g.names.length cn, .slice At g.terms.length ct, .slice Ar g.rules.length cr]) (T := 25))
    have w1 : IntKind.i64.wrap ((g.names.length : Int) + g.terms.length) = g.names.length + g.terms.length := IntWalk.i64_in _ (by omega)
    go_enter Try.func17, Try.ntmps17
    go_wp2
    all_goals first
      | (exfalso; omega)
      | (go_ret
         exact Hno.out _ Hb.out hno.out)
end Go.Proofs.Ythpjjlmgdalpaaa
