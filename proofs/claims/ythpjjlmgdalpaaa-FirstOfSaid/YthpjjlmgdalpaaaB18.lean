/- well.Shortest, Productive, Reached. -/
import Derived.Test.YthpjjlmgdalpaaaB17
namespace Go.Proofs.Ythpjjlmgdalpaaa
open Go.RowKit

theorem Blk.cellg {w W : World} {g : Nat} {t : TypeId} {cs : Array Value} (h : Blk w g t cs) {ob : Nat} (hg : w.grownBy W (some ob)) (hne : g ≠ ob) (i : Nat) : W.cell? ⟨g, i, none⟩ = cs[i]? :=
  (h.grown hg (by intro e; injection e with e; exact hne e)).cell i
theorem SlAt.new (w : World) (t : TypeId) (x : Value) : SlAt (w.alloc (.cells #[x] t)) (w.heap.size + 1) (some ⟨w.heap.size, 0, none⟩) [x] :=
  .inr ⟨_, _, rfl, by omega, fun j u hu => by
    rw [Nat.zero_add, (Blk.new w t #[x]).cell j]
    simpa using hu⟩

set_option maxHeartbeats 1000000 in
set_option maxRecDepth 8000 in
theorem shortest_any (v : GV) (g : G) (w : World) (hg : GAt w w.heap.size v g) (hv : VG g) :
    Calls Try.prog 132 #[.agg #[.slice v.An g.names.length v.cn, .slice v.At g.terms.length v.ct, .slice v.Ar g.rules.length v.cr]] w fun e w' => (∃ b S, w.heap.size ≤ b ∧ e = .returned (.slice (some ⟨b, 0, none⟩) g.names.length g.names.length) ∧ S.length = g.names.length ∧ sgn S = prodN g (g.names.length + 1) ∧ Blk w' b 3 (ints S).toArray) ∧ Below w.heap.size w w' := by
  have eg := enters_of Try.func144 (by kernel_rfl) rfl
  have hsm : g.names.length ≤ 1000000 ∧ g.terms.length ≤ 1000000 := by have := hv.sy; omega
  have n1 := hv.n1
  have HG := hide hg
  have HV := hide hv
  have Hb0 := hide (Bx.self (w := w) (cs := #[.slice v.An g.names.length v.cn, .slice v.At g.terms.length v.ct, .slice v.Ar g.rules.length v.cr]) (T := 25))
  have HC1 := hide (valid_any v g _ (HG.out.bx Hb0.out) hsm)
  rw [bool_true hv] at HC1
  have HC3 : Hid (∀ (W : World) (b : Nat), Bx w #[.slice v.An g.names.length v.cn, .slice v.At g.terms.length v.ct, .slice v.Ar g.rules.length v.cr] 25 W → w.heap.size ≤ b → b < W.heap.size → Blk W b 3 (ints (List.replicate g.names.length (-1))).toArray →
      Calls Try.prog 133 #[.agg #[.slice v.An g.names.length v.cn, .slice v.At g.terms.length v.ct, .slice v.Ar g.rules.length v.cr], .func (.func 144) #[] #[.pointer (some ⟨W.heap.size, 0, none⟩)]] (W.alloc (.cells #[.slice (some ⟨b, 0, none⟩) g.names.length g.names.length] 26)) fun e W' => e = .returned (.tuple #[]) ∧
        (∃ S : List Int, S.length = g.names.length ∧ Lens S ∧ sgn S = prodN g (g.names.length + 1) ∧ Blk W' b 3 (ints S).toArray) ∧ (W.alloc (.cells #[.slice (some ⟨b, 0, none⟩) g.names.length g.names.length] 26)).grownBy W' (some b)) := by
    intro W b hbx hwb hbW hB
    have hbk := Blk.new W 26 #[.slice (some ⟨b, 0, none⟩) g.names.length g.names.length]
    have hsz : (W.alloc (.cells #[.slice (some ⟨b, 0, none⟩) g.names.length g.names.length] 26)).heap.size = W.heap.size + 1 := by simp
    have := rounds_any 144 eg prodStep (fun P U => ∃ S : List Int, S.length = g.names.length ∧ Lens S ∧ sgn S = P ∧ Blk U b 3 (ints S).toArray) ⟨W.heap.size, 0, none⟩ b w.heap.size v g (W.alloc (.cells #[.slice (some ⟨b, 0, none⟩) g.names.length g.names.length] 26))
      (HG.out.below (hbx.alloc _).below) hwb (by omega) hsm.1 (fun P U o ⟨S, s1, s2, s3, s4⟩ => ⟨S, s1, s2, s3, s4.alloc o⟩)
      (fun r C c P U hr hgr hC hc ⟨S, s1, s2, s3, s4⟩ => by
        obtain ⟨f1, f2, f3, f4⟩ := HV.out.ru r hr
        have hU := hgr.size
        subst s3
        refine (shortest1_any r C c W.heap.size 0 b S U ?_ (by omega) s4 s2 (hC.more (by omega)) hc f1 (by omega) f3 (fun s hs => by have := (f4 s hs).1; omega) (by omega)).mono ?_
        · rw [hbk.cellg hgr (by omega) 0, s1]; rfl
        · rintro e W' ⟨rfl, ⟨S', t1, t2, t3, t4⟩, t5⟩
          exact ⟨rfl, ⟨S', t1.trans s1, t2, t3, t4⟩, t5⟩)
      (List.replicate g.names.length false) ⟨List.replicate g.names.length (-1), by simp, fun x hx => by rw [(List.mem_replicate.1 hx).2]; omega, by simp [sgn], hB.alloc _⟩
    rw [← prodN_eq] at this
    exact this
  clear hg hv eg
  obtain ⟨An, cn, At, ct, Ar, cr⟩ := v
  dsimp only at Hb0 HC1 HC3
  go_enter Try.func132, Try.ntmps132
  go_wp2_with (first
    | (go_at_call 55; refine HC1.out.mono ?_; rintro e W1 ⟨rfl, hb1⟩; have Hb1 := hide (Hb0.out.call hb1); have cG1 := Hb1.out.cell; have hl1 := Hb1.out.lt; clear hb1 HC1)
    | (go_at_call 110; go_must (refine (repeat_any (-1) (some ⟨W1.heap.size, 0, none⟩) 1 g.names.length (W1.alloc (.cells #[.int .i64 (-1)] 3)) ((SlAt.new W1 3 (.int .i64 (-1))).more (by simp)) n1 hsm.1).mono ?_); rintro e W2 ⟨rfl, hB2, hb2⟩; have Hb2 := hide ((Hb1.out.alloc (.cells #[.int .i64 (-1)] 3)).call hb2); have cG2 := Hb2.out.cell; have hl2 : W1.heap.size + 1 < W2.heap.size := (by simpa using hB2.lt); have hl3 : w.heap.size < W2.heap.size := Hb2.out.lt; have HB2 := hide hB2; clear hb2 hB2)
    | (go_at_call 133; go_must (refine (HC3.out W2 (W1.heap.size + 1) Hb2.out (by omega) hl2 (by simpa using HB2.out)).mono ?_); rintro e W3 ⟨rfl, hS, hg3⟩; have Hg3 := hide hg3; have cq : W3.cell? ⟨W2.heap.size, 0, none⟩ = some (.slice (some ⟨W1.heap.size + 1, 0, none⟩) g.names.length g.names.length) := (Blk.new W2 26 #[.slice (some ⟨W1.heap.size + 1, 0, none⟩) g.names.length g.names.length]).cellg hg3 (by omega) 0; clear hg3))
  go_ret
  obtain ⟨S, s1, s2, s3, s4⟩ := hS
  refine ⟨⟨_, S, by omega, rfl, s1, s3, s4⟩, ?_⟩
  have h2 : Below w.heap.size w W2 := Hb2.out.below
  exact (h2.alloc h2.size _).trans (Grown.below Hg3.out (by omega) (by have := h2.size; simp; omega))
end Go.Proofs.Ythpjjlmgdalpaaa
