/- drive.Run: routines, done act by act as is picked. -/
import Derived.Test.YtlbphffnbhoghaaDoorAlone
import Derived.Deep.AppendLies
import Derived.Deep.DeepMust
namespace Go.Proofs.YtlbphffnbhoghaaDoor
open Go.RowKit
set_option maxRecDepth 100000
set_option linter.unusedVariables false
set_option linter.unusedSimpArgs false

/-- What holds on behind any routine's act, and makes it valid. -/
def Rout.ClosedL (R : Rout) (J : PA → List R.σ → Prop) : Prop := ∀ A ss i s x, J A ss → A.Ok → ss[i]? = some s → R.act s = some x → Valid A x ∧ R.ok s (doG A x) ∧ J (doA A x) (ss.set i (R.take s (doG A x)))
/-- A slice of int, as it came in. -/
def Ints (w : World) (k : IntKind) (v : Value) (zs : List Int) : Prop :=
  (v = .slice none 0 0 ∧ zs = []) ∨ ∃ (b o c : Nat), v = .slice (some ⟨b, o, none⟩) zs.length c ∧ ∀ (i : Nat) (z : Int), zs[i]? = some z → w.cell? ⟨b, o + i, none⟩ = some (.int k z)
/-- Where the picks lie, if there are any. -/
def PicksAt (w : World) (U : Nat → Prop) (po : Option Addr) (zs : List Int) : Prop :=
  zs ≠ [] → ∃ b o, po = some ⟨b, o, none⟩ ∧ ¬ U b ∧ b < w.heap.size ∧ ∀ (i : Nat) (z : Int), zs[i]? = some z → w.cell? ⟨b, o + i, none⟩ = some (i64 z)
/-- Between two rounds. -/
structure RunJ (R : Rout) (J : PA → List R.σ → Prop) (w : World) (a : Nat) (bs : List Nat) (U : Nat → Prop) (m q : Nat) (v : Value) (n : Nat) (xs : List Value) (A : PA) (ss : List R.σ) (V : Nat → Prop) (wr : World) : Prop where
  hq : q ≤ m
  own : wr.ownsRow w.heap.size 136 7 v n xs
  hn : n ≤ q
  j : J A ss
  sys : Sys R wr a A bs ss V
  hv : ∀ k, V k → U k ∨ w.heap.size ≤ k
  hg : ∀ g, v.ownBlock = some g → ¬ V g ∧ w.heap.size ≤ g
  e : Ext U w wr
theorem infoStep : (Tryd.prog.info? 136).map (fun i => (i.zero, i.size, i.bytes)) = some (some (.agg #[i64 0, i64 0, u64 0, i64 0, u64 0, u64 0, u64 0]), 7, 56) := by kernel_rfl
theorem ownsRow_ext {S : Nat → Prop} {w w' : World} {base : Nat} {e : TypeId} {size n : Nat} {v : Value} {xs : List Value} (h : w.ownsRow base e size v n xs) (k : Ext S w w') (hS : ∀ g, v.ownBlock = some g → ¬ S g) : w'.ownsRow base e size v n xs := by
  refine ⟨h.1, ?_⟩
  rcases h.2 with hn | ⟨g, cap, cur, hv, hb, hg, rest⟩
  · exact .inl hn
  · refine .inr ⟨g, cap, cur, hv, hb, (k.keep g ((Array.getElem?_eq_some_iff.1 hg).1) (hS g (by rw [hv]; rfl))).trans hg, rest⟩
theorem RunJ.skip {R : Rout} {J : PA → List R.σ → Prop} {w : World} {a : Nat} {bs : List Nat} {U : Nat → Prop} {m q : Nat} {v : Value} {n : Nat} {xs : List Value} {A : PA} {ss : List R.σ} {V : Nat → Prop} {wr w' : World}
    (h : RunJ R J w a bs U m q v n xs A ss V wr) (hq : q < m) (e : Ext (fun _ => False) wr w') : RunJ R J w a bs U m (q + 1) v n xs A ss V w' :=
  ⟨hq, ownsRow_ext h.own e (fun _ _ h => h), Nat.le_succ_of_le h.hn, h.j, h.sys.keep e (fun _ _ h => h), h.hv, h.hg, h.e.trans' e fun _ h => h.elim⟩
theorem RunJ.more {R : Rout} {J : PA → List R.σ → Prop} {w : World} {a : Nat} {bs : List Nat} {U : Nat → Prop} {m q : Nat} {v v' : Value} {n : Nat} {xs xs' : List Value} {A A' : PA} {ss ss' : List R.σ} {V : Nat → Prop} {wr w1 w2 w3 : World}
    (h : RunJ R J w a bs U m q v n xs A ss V wr) (hq : q < m) (hs : Sys R w1 a A' bs ss' (grow V wr w1)) (e1 : Ext V wr w1) (hj : J A' ss') (e2 : Ext (fun _ => False) w1 w2) (hg : w2.grownBy w3 v.ownBlock) (hown : w3.ownsRow w.heap.size 136 7 v' (n + 1) xs')
    (hat : ∀ g, v'.ownBlock = some g → v.ownBlock = some g ∨ g = w2.heap.size) (hw0 : 0 < w.heap.size) : RunJ R J w a bs U m (q + 1) v' (n + 1) xs' A' ss' (grow V wr w1) w3 := by
  have hlt := h.own.lt
  have hs1 := e1.size; have hs2 := e2.size; have hs0 := h.e.size
  have hno : ∀ g, v.ownBlock = some g → ¬ grow V wr w1 g := by
    rintro g hg (h1 | h1)
    · exact (h.hg g hg).1 h1
    · have := hlt g hg; omega
  have e3 : Ext (fun k => v.ownBlock = some k) w2 w3 := ⟨hg.os, hg.tape, hg.output, hg.size, fun k hk hs => hg.block k hk (fun e => hs e.symm)⟩
  have hlt2 := hs.lt
  refine ⟨hq, hown, Nat.succ_le_succ h.hn, hj, (hs.keep e2 (fun _ _ h => h)).keep e3 (fun k hk hk' => hk.elim (hno k hk') (fun e => by have h1 := (h.hg k hk').2; have h2 := hw0; omega)), ?_, ?_, ?_⟩
  · rintro k (h1 | h1)
    · exact h.hv k h1
    · exact .inr (by omega)
  · intro g hg'
    rcases hat g hg' with h1 | rfl
    · exact ⟨hno g h1, (h.hg g h1).2⟩
    · exact ⟨fun h1 => by have := hlt2 _ h1; omega, by omega⟩
  · refine ((h.e.trans' e1 h.hv).trans' e2 fun _ h => h.elim).trans' e3 fun k hk => .inr (h.hg k hk).2
theorem Run_c (R : Rout) (J : PA → List R.σ → Prop) (hJ : R.ClosedL J) (w : World) (a : Nat) (A : PA) (bs : List Nat) (ss : List R.σ) (U : Nat → Prop) (h : Sys R w a A bs ss U) (hj : J A ss)
    (lb lc : Nat) (hl : ∀ (i b : Nat), bs[i]? = some b → w.cell? ⟨lb, i, none⟩ = some (.iface R.ty (ptr b))) (hlU : ¬ U lb) (hlt : lb < w.heap.size) (po0 : Option Addr) (pc : Nat) (zs : List Int) (hpo : PicksAt w U po0 zs) (hzr : ∀ z ∈ zs, -9223372036854775808 ≤ z ∧ z < 9223372036854775808)
    (hn : 1 ≤ bs.length) (hn' : bs.length < 1000) (hzn : zs.length < 1000) :
    Calls Tryd.prog 21 #[ptr a, .slice (some ⟨lb, 0, none⟩) bs.length lc, .slice po0 zs.length pc] w fun e w' => (∃ v, e = .returned v) ∧ (∃ A' ss', J A' ss' ∧ Sys R w' a A' bs ss' (grow U w w')) ∧ Ext U w w' := by
  have hw0 := h.pos
  go_enter Tryd.func21, Tryd.ntmps21
  go_wp2
  go_loopw [7, 16] (fun v iv wr => ∃ (q n : Nat) (xs : List Value) (A' : PA) (ss' : List R.σ) (V : Nat → Prop), iv = i64 q ∧ RunJ R J w a bs U zs.length q v n xs A' ss' V wr) (fun _ iv _ => zs.length - (intOf iv).toNat)
  case atStart =>
    exact ⟨0, 0, [], A, ss, U, rfl, ⟨Nat.zero_le _, World.ownsRow_nil _ _ _ _, Nat.le_refl _, hj, h, fun _ h => .inl h, (fun _ h => by cases h), Ext.refl _ _⟩⟩
  case round =>
    obtain ⟨q, n, xs, A', ss', V, rfl, hr⟩ := hrel
    by_cases hq : q < zs.length
    · obtain ⟨pb, po, rfl, hpU, hpt, hz⟩ := hpo (by rintro rfl; simp at hq)
      have hz1 := hz q zs[q] (List.getElem?_eq_getElem hq)
      have hz2 := (hr.e.cell hpt hpU (po + q)).trans hz1
      have hzr1 := hzr _ (List.getElem_mem hq)
      generalize zs[q] = z at hz2 hzr1
      have hr' := Lib.hid hr; have hJ' := Lib.hid hJ; have hz' := Lib.hid hz; have hl' := Lib.hid hl; have h' := Lib.hid h; have hj' := Lib.hid hj; have hzr' := Lib.hid hzr
      have hN : ∃ N : Int, (bs.length : Int) = N := ⟨_, rfl⟩
      obtain ⟨N, hN⟩ := hN
      have hN0 : (N == 0) = false := by simp; omega
      obtain ⟨t, ht⟩ : ∃ t : Int, z.tmod N = t := ⟨_, rfl⟩
      have hNp : 0 < N := by omega
      have hNl : N < 1000 := by omega
      have ht1 : -N < t := by rw [← ht]; exact Int.lt_tmod_of_pos z hNp
      have ht2 : t < N := by rw [← ht]; exact Int.tmod_lt_of_pos z hNp
      obtain ⟨j, jI, hj1, hj2⟩ : ∃ (j : Nat) (jI : Int), jI = (if t < 0 then t + N else t) ∧ jI.toNat = j := ⟨_, _, rfl, rfl⟩
      have hj0 : 0 ≤ jI := by rw [hj1]; split <;> omega
      have hj3 : jI < N := by rw [hj1]; split <;> omega
      have hjb : j < bs.length := by omega
      obtain ⟨b, hb⟩ : ∃ b, bs[j]? = some b := ⟨_, List.getElem?_eq_getElem hjb⟩
      obtain ⟨s, hs⟩ : ∃ s, ss'[j]? = some s := ⟨_, List.getElem?_eq_getElem (by rw [← hr.sys.len]; exact hjb)⟩
      have hlc := (hr.e.cell hlt hlU j).trans (hl j b hb)
      have hcase : (t < 0 ∧ t + N = jI) ∨ (0 ≤ t ∧ t = jI) := by
        by_cases h0 : t < 0
        · left; rw [if_pos h0] at hj1; exact ⟨h0, hj1.symm⟩
        · right; rw [if_neg h0] at hj1; exact ⟨by omega, hj1.symm⟩
      cases hx : R.act s with
      | none =>
        have hN' := Lib.hid (hr.sys.next0 hb hs hx)
        clear hr hJ hz hl h hj hzr hz1 hj1 hb hs hx
        simp only [noAct, AV.vals] at hN'
        rcases hcase with ⟨h0, hw⟩ | ⟨h0, ht0⟩
        · go_wp2_with (go_at_call 66; refine use_n hN'.out (fun w1 hw1 => ?_); have hw1' := Lib.hid hw1; clear hw1)
          exact ⟨⟨q + 1, n, xs, A', ss', V, rfl, hr'.out.skip hq (hw1'.out.alloc _)⟩, by simp [intOf]; omega⟩
        · go_wp2_with (go_at_call 66; refine use_n hN'.out (fun w1 hw1 => ?_); have hw1' := Lib.hid hw1; clear hw1)
          exact ⟨⟨q + 1, n, xs, A', ss', V, rfl, hr'.out.skip hq (hw1'.out.alloc _)⟩, by simp [intOf]; omega⟩
      | some x =>
        obtain ⟨hv, hok, hj2⟩ := hJ A' ss' j s x hr.j hr.sys.ok hs hx
        have hN' := Lib.hid (hr.sys.next hb hs hx hv hok)
        have hj2' := Lib.hid hj2
        obtain ⟨kd, bl, cl, od, nw⟩ := x
        clear hr hJ hz hl h hj hzr hz1 hj1 hb hs hx hv hok hj2
        generalize doA A' ⟨kd, bl, cl, od, nw⟩ = A2 at hN' hj2'
        generalize doG A' ⟨kd, bl, cl, od, nw⟩ = g at hN' hj2'
        generalize ss'.set j (R.take s g) = ss2 at hN' hj2'
        simp only [AV.vals] at hN'
        obtain ⟨ti, hi, hz0, hz1, hz2⟩ := info_parts infoStep
        have hown' := Lib.hid hr'.out.own
        have hg' : Hid (∀ g, u7.ownBlock = some g → ¬ V g) := Lib.hid fun g hg => (hr'.out.hg g hg).1
        have hnb' : Hid (∀ (W : World) (o1 o2 : Obj), ((W.alloc o1).alloc o2).heap[W.heap.size + 1]? = some o2) := Lib.hid fun W o1 o2 => by have := World.alloc_heap_new (W.alloc o1) o2; rwa [World.size_alloc] at this
        have hone' : Hid (∀ (j kd : Int) (bl cl od nw g : Int), ∀ u ∈ [i64 j, i64 kd, u64 bl, i64 cl, u64 od, u64 nw, u64 g], u.oneCell' = true) := Lib.hid fun _ _ _ _ _ _ _ u hu => by
          simp only [List.mem_cons, List.not_mem_nil, or_false] at hu
          rcases hu with rfl | rfl | rfl | rfl | rfl | rfl | rfl <;> rfl
        have hbd' : Hid (n + 1 ≤ maxLen ∧ (n + 1) * 56 ≤ 140737488355328) := Lib.hid (by have := hr'.out.hn; exact ⟨by unfold maxLen; omega, by omega⟩)
        have hsz' : Hid (∀ (W : World) (o1 o2 : Obj), Ext V wr W → w.heap.size ≤ ((W.alloc o1).alloc o2).heap.size) := Lib.hid fun W o1 o2 hW => by have := hW.size; have := hr'.out.e.size; rw [World.size_alloc, World.size_alloc]; omega
        rcases hcase with ⟨h0, hw⟩ | ⟨h0, ht0⟩
        · go_wp2_with (first
            | (go_at_call 66; refine hN'.out.mono ?_; rintro e w1 ⟨rfl, hw1⟩; have hw1' := Lib.hid hw1; clear hw1)
            | (at_builtin; go_must (refine wpList_append_lies _ rfl _ _ _ rfl w.heap.size 136 ti _ 7 56 Tryd.underlying65 hi hz0 hz1 hz2 rfl (by decide) u7 n xs rfl (ownsRow_ext (ownsRow_ext hown'.out hw1'.out.2 hg'.out) (((Ext.refl (fun _ => False) _).alloc _).alloc _) (fun _ _ h => h)) ⟨w1.heap.size + 1, 0, none⟩ 1 1 [i64 jI, i64 kd, u64 bl, i64 cl, u64 od, u64 nw, u64 g] rfl rfl (World.news_of_block (hnb'.out _ _ _)) (hone'.out _ _ _ _ _ _ _) (by decide) (hbd'.out.1) (hbd'.out.2) (hsz'.out _ _ _ hw1'.out.2) _ rfl ?_); intro g2 cap w2 hown2 hgrow hat hltg; have hap' := Lib.hid (And.intro hown2 (And.intro hgrow (And.intro hat hltg))); clear hown2 hgrow hat hltg))
          refine ⟨⟨q + 1, n + 1, _, A2, ss2, _, rfl, hr'.out.more hq hw1'.out.1 hw1'.out.2 hj2'.out (((Ext.refl (fun _ => False) _).alloc _).alloc _) hap'.out.2.1 hap'.out.1 ?_ hw0⟩, by simp [intOf]; omega⟩
          intro g3 hg3
          have : g2 = g3 := by simpa [Value.ownBlock] using hg3
          subst this
          exact hap'.out.2.2.1
        · go_wp2_with (first
            | (go_at_call 66; refine hN'.out.mono ?_; rintro e w1 ⟨rfl, hw1⟩; have hw1' := Lib.hid hw1; clear hw1)
            | (at_builtin; go_must (refine wpList_append_lies _ rfl _ _ _ rfl w.heap.size 136 ti _ 7 56 Tryd.underlying65 hi hz0 hz1 hz2 rfl (by decide) u7 n xs rfl (ownsRow_ext (ownsRow_ext hown'.out hw1'.out.2 hg'.out) (((Ext.refl (fun _ => False) _).alloc _).alloc _) (fun _ _ h => h)) ⟨w1.heap.size + 1, 0, none⟩ 1 1 [i64 jI, i64 kd, u64 bl, i64 cl, u64 od, u64 nw, u64 g] rfl rfl (World.news_of_block (hnb'.out _ _ _)) (hone'.out _ _ _ _ _ _ _) (by decide) (hbd'.out.1) (hbd'.out.2) (hsz'.out _ _ _ hw1'.out.2) _ rfl ?_); intro g2 cap w2 hown2 hgrow hat hltg; have hap' := Lib.hid (And.intro hown2 (And.intro hgrow (And.intro hat hltg))); clear hown2 hgrow hat hltg))
          refine ⟨⟨q + 1, n + 1, _, A2, ss2, _, rfl, hr'.out.more hq hw1'.out.1 hw1'.out.2 hj2'.out (((Ext.refl (fun _ => False) _).alloc _).alloc _) hap'.out.2.1 hap'.out.1 ?_ hw0⟩, by simp [intOf]; omega⟩
          intro g3 hg3
          have : g2 = g3 := by simpa [Value.ownBlock] using hg3
          subst this
          exact hap'.out.2.2.1
    · have : q = zs.length := Nat.le_antisymm hr.hq (Nat.le_of_not_lt hq)
      subst this
      have hr' := Lib.hid hr; clear hr
      go_wp2
      refine bodyPost_ret (results_tmp rfl _ _ _) rfl ⟨⟨_, rfl⟩, ⟨A', ss', hr'.out.j, ?_⟩, hr'.out.e⟩
      have hlt2 := hr'.out.sys.lt
      refine hr'.out.sys.mono (fun k hk => ?_) (grow.lt h.lt hr'.out.e.size) (grow.no h.nz hw0)
      rcases hr'.out.hv k hk with h1 | h1
      · exact .inl h1
      · exact .inr ⟨h1, hlt2 k hk⟩
/-- Whatever picks came in. -/
theorem Run_any (R : Rout) (J : PA → List R.σ → Prop) (hJ : R.ClosedL J) (w : World) (a : Nat) (A : PA) (bs : List Nat) (ss : List R.σ) (U : Nat → Prop) (h : Sys R w a A bs ss U) (hj : J A ss)
    (lb lc : Nat) (hl : ∀ (i b : Nat), bs[i]? = some b → w.cell? ⟨lb, i, none⟩ = some (.iface R.ty (ptr b))) (hlU : ¬ U lb) (hlt : lb < w.heap.size) (po : Option Addr) (pc : Nat) (zs : List Int) (hpo : PicksAt w U po zs) (hzr : ∀ z ∈ zs, -9223372036854775808 ≤ z ∧ z < 9223372036854775808)
    (hn : 1 ≤ bs.length) (hn' : bs.length < 1000) (hzn : zs.length < 1000) :
    Calls Tryd.prog 21 #[ptr a, .slice (some ⟨lb, 0, none⟩) bs.length lc, .slice po zs.length pc] w fun e w' => (∃ v, e = .returned v) ∧ (∃ A' ss', J A' ss' ∧ Sys R w' a A' bs ss' (grow U w w')) ∧ Ext U w w' := Run_c R J hJ w a A bs ss U h hj lb lc hl hlU hlt po pc zs hpo hzr hn hn' hzn
end Go.Proofs.YtlbphffnbhoghaaDoor
