/- drive.Alone: a routine's acts, done alone. -/
import Derived.Test.YtlbphffnbhoghaaDoorSys
namespace Go.Proofs.YtlbphffnbhoghaaDoor
open Go.RowKit
set_option maxRecDepth 100000
set_option linter.unusedVariables false
set_option linter.unusedSimpArgs false
attribute [local go_sem] Oper.semAt_some

/-- What the loop's way out leads to. -/
def rangeDone (n : Nat) (Q : Exit → Act → World → Prop) (a : Act) : Option Code → World → Prop
  | none, W => Q .normal a W
  | some c, W => c.wpIn Fence.wide n Tryd.prog Q a W
theorem wpIn_rangeFunc_rec {n : Nat} {g : Operand} {ps : Array Tmp} {assign body : Code} {Q : Exit → Act → World → Prop} {a : Act} {w : World} {gf : Nat} {lb : Array Value}
    (hg : a.eval g = .func (.func gf) #[] lb) (eg : ∀ args w, (callFunc gf args).run Tryd.prog w = .ok (.enter gf args) w) (h1 : 1 ≤ n)
    (h : ∀ (rec : LoopState → Option Code → Loop) (fn : FuncId), rec = (fun st pe => { state := st, pending := pe, fn, tmps := a.tmps, params := ps, assign, body, defers := w.heap.size }) →
      CallsIn Fence.wide (n - 1) Tryd.prog gf (#[.func (.yield (w.heap.size + 1)) #[] #[]] ++ lb) ((w.alloc (.deferred (some []))).alloc (.loop (rec .ready none))) fun e W2 =>
        (∃ v, e = .returned v) ∧ ∃ st jump, st ≠ .busy ∧ W2.heap[w.heap.size + 1]? = some (.loop (rec st jump)) ∧
          rangeDone n Q { a with defers := { target := .collected w.heap.size, args := #[] } :: a.defers } jump (W2.putObj (w.heap.size + 1) (.loop (rec .exhausted jump)))) :
    (Code.rangeFunc g ps assign body).wpIn Fence.wide n Tryd.prog Q a w := by
  refine wpIn_rangeFunc ?_
  intro fn _
  obtain ⟨rec, hrec⟩ : ∃ rec : LoopState → Option Code → Loop, rec = fun st pe => { state := st, pending := pe, fn, tmps := a.tmps, params := ps, assign, body, defers := w.heap.size } := ⟨_, rfl⟩
  obtain ⟨W1, hW1⟩ : ∃ W1, (w.alloc (.deferred (some []))).alloc (.loop (rec .ready none)) = W1 := ⟨_, rfl⟩
  refine ⟨w.heap.size + 1, [{ target := .collected w.heap.size, args := #[] }], W1, { target := .fn (.func gf) lb, args := #[.func (.yield (w.heap.size + 1)) #[] #[]] }, W1, gf,
    #[.func (.yield (w.heap.size + 1)) #[] #[]] ++ lb, W1, by rw [← hW1, hrec]; exact run_enterLoop_outer _ _ _ _ _, ?_, ?_, ?_, fun _ => h1, ?_⟩
  · simp only [resolve, hg]
    simp [go_sem]
  · intro f' _; trivial
  · simp [invoke, go_sem, eg]
  · rw [← hW1]
    refine (h rec fn hrec).mono ?_
    rintro e W2 ⟨⟨v, rfl⟩, st, jump, hst, hl, hd⟩
    refine ⟨jump, W2.putObj (w.heap.size + 1) (.loop (rec .exhausted jump)), ?_, ?_⟩
    · have := run_endLoop (P := Tryd.prog) hl (by rw [hrec]; exact hst)
      rw [hrec] at this ⊢
      exact this
    · cases jump with
      | none => exact hd
      | some c => exact hd
/-- One round, its assignments none. -/
theorem round_rec {n : Nat} {ps : Array Tmp} {body : Code} {fn : FuncId} {tmps : Array Value} {D l : Nat} {W : World} {args : Array Value} {R : Ending → World → Prop} {rec : LoopState → Option Code → Loop}
    (hrec : rec = fun st pe => { state := st, pending := pe, fn, tmps, params := ps, assign := .skip, body, defers := D }) (hs : args.size = ps.size) (hl : W.heap[l]? = some (.loop (rec .ready none)))
    (h : body.wpIn (Fence.wide.inRound l) n Tryd.prog (fun ex _ W3 => match ex with
        | .normal => W3.heap[l]? = some (.loop (rec .busy none)) ∧ R (.returned (.bool true)) (W3.putObj l (.loop (rec .ready none)))
        | .exit id => W3.heap[l]? = some (.loop (rec .busy none)) ∧ R (.returned (.bool false)) (W3.putObj l (.loop (rec .done (some (.exit id)))))
        | _ => False) { tmps := (ps.zip args).foldl (fun t (p, v) => t.setIfInBounds p v) tmps, defers := [] } (W.putObj l (.loop (rec .busy none)))) :
    YieldAt Fence.wide n Tryd.prog l args W R := by
  have hy := run_yield (P := Tryd.prog) (args := args) hl (by rw [hrec]; exact hs)
  rw [hrec] at hy
  refine ⟨fn, _, .skip, body, hy, roundIn_of_wpIn trivial (wpIn_skip ⟨_, run_beginRound hl (by rw [hrec]), ?_⟩)⟩
  rw [hrec] at h hl ⊢
  refine wpIn_mono h ?_
  intro ex a3 W3 hp
  cases ex with
  | normal => exact ⟨_, _, run_endRound none hp.1, hp.2⟩
  | exit id => exact ⟨_, _, run_endRound (some (.exit id)) hp.1, hp.2⟩
  | ret => exact hp.elim
  | goto t => exact hp.elim
  | panic ch => exact hp.elim
  | outgrown => exact hp.elim
theorem Rout.alone_none {R : Rout} {A : PA} {s : R.σ} (h : R.act s = none) : ∀ m, R.alone m A s = (A, s, 0)
  | 0 => rfl
  | m + 1 => by unfold Rout.alone; rw [h]
theorem Rout.alone_some {R : Rout} {A : PA} {s : R.σ} {x : AV} (h : R.act s = some x) (m : Nat) : R.alone (m + 1) A s = ((R.alone m (doA A x) (R.take s (doG A x))).1, (R.alone m (doA A x) (R.take s (doG A x))).2.1, (R.alone m (doA A x) (R.take s (doG A x))).2.2 + 1) := by
  rw [Rout.alone]; rw [h]
/-- k acts are done, and the arena is A', the state s'. -/
def Reach (R : Rout) (most : Nat) (A : PA) (s : R.σ) (k : Nat) (A' : PA) (s' : R.σ) : Prop :=
  k ≤ most ∧ R.alone most A s = ((R.alone (most - k) A' s').1, (R.alone (most - k) A' s').2.1, (R.alone (most - k) A' s').2.2 + k)
theorem Reach.start {R : Rout} {most : Nat} {A : PA} {s : R.σ} : Reach R most A s 0 A s := ⟨Nat.zero_le _, rfl⟩
theorem Reach.step {R : Rout} {most : Nat} {A : PA} {s : R.σ} {k : Nat} {A' : PA} {s' : R.σ} (h : Reach R most A s k A' s') (hk : k < most) {x : AV} (hx : R.act s' = some x) : Reach R most A s (k + 1) (doA A' x) (R.take s' (doG A' x)) := by
  refine ⟨hk, ?_⟩
  rw [h.2]
  obtain ⟨m, hm⟩ : ∃ m, most - k = m + 1 := ⟨most - k - 1, by omega⟩
  rw [hm, Rout.alone_some hx, show most - (k + 1) = m by omega]
  simp only [Prod.mk.injEq, true_and]
  omega
theorem Reach.stop {R : Rout} {most : Nat} {A : PA} {s : R.σ} {k : Nat} {A' : PA} {s' : R.σ} (h : Reach R most A s k A' s') (hx : R.act s' = none) : R.alone most A s = (A', s', k) := by
  rw [h.2, Rout.alone_none hx]; simp
theorem Reach.most {R : Rout} {most : Nat} {A : PA} {s : R.σ} {A' : PA} {s' : R.σ} (h : Reach R most A s most A' s') : R.alone most A s = (A', s', most) := by
  rw [h.2, Nat.sub_self]; simp [Rout.alone]
structure AlJ (R : Rout) (a : Nat) (bs : List Nat) (ss : List R.σ) (i : Nat) (U : Nat → Prop) (W1 : World) (nb l : Nat) (k : Nat) (A' : PA) (s' : R.σ) (o : Obj) (W : World) : Prop where
  sys : Sys R W a A' bs (ss.set i s') (grow U W1 W)
  ext : Ext (fun k => U k ∨ k = nb ∨ k = l) W1 W
  n : Blk W nb [i64 k] 3
  l : W.heap[l]? = some o
def cellN (W : World) (b : Nat) : Nat := match W.cell? ⟨b, 0, none⟩ with
  | some (.int _ x) => x.toNat
  | _ => 0
theorem cellN_eq {W : World} {b n : Nat} {T : TypeId} (h : Blk W b [i64 n] T) : cellN W b = n := by
  unfold cellN; rw [h.cell 0 (i64 n) rfl]; simp
theorem AlJ.of {R : Rout} {a : Nat} {bs : List Nat} {ss : List R.σ} {i : Nat} {U : Nat → Prop} {W1 : World} {nb l k : Nat} {A' A'' : PA} {s' s'' : R.σ} {o : Obj} {W W' : World} (h : AlJ R a bs ss i U W1 nb l k A' s' o W)
    (hnb : nb < W1.heap.size) (hl1 : l < W1.heap.size) (hUnb : ¬ U nb) (hUl : ¬ U l) (hs : Sys R W' a A'' bs (ss.set i s'') (grow (grow U W1 W) W W')) (e : Ext (grow U W1 W) W W') : AlJ R a bs ss i U W1 nb l k A'' s'' o W' := by
  have hG : ∀ j, j < W1.heap.size → ¬ U j → ¬ grow U W1 W j := by
    rintro j hj hu (h | h)
    · exact hu h
    · omega
  refine ⟨hs.mono (grow.step h.ext.size e.size) ?_ (fun hz => hs.nz (hz.elim (fun h => .inl (.inl h)) (fun h => by omega))), h.ext.trans' e ?_, h.n.ext e (hG _ hnb hUnb), ?_⟩
  · rintro j (hj | hj)
    · exact Nat.lt_of_lt_of_le (h.sys.lt j (.inl hj)) e.size
    · exact hj.2
  · rintro j (hj | hj)
    · exact .inl (.inl hj)
    · exact .inr hj.1
  · exact (e.keep l (Nat.lt_of_lt_of_le hl1 h.ext.size) (hG _ hl1 hUl)).trans h.l
theorem grow.wide {F : Nat → Prop} {w w1 w2 : World} (h : w1.heap.size ≤ w2.heap.size) : ∀ k, grow F w w1 k → grow F w w2 k
  | _, .inl hk => .inl hk
  | _, .inr hk => .inr ⟨hk.1, by omega⟩
theorem AlJ.round {R : Rout} {a : Nat} {bs : List Nat} {ss : List R.σ} {i : Nat} {U : Nat → Prop} {W1 : World} {nb l k : Nat} {A' : PA} {s' : R.σ} {o o' o2 : Obj} {W : World} (h : AlJ R a bs ss i U W1 nb l k A' s' o W)
    (hnb : nb < W1.heap.size) (hl1 : l < W1.heap.size) (hUnb : ¬ U nb) (hUl : ¬ U l) (hne : nb ≠ l) (hn0 : nb ≠ 0) (hl0 : l ≠ 0) : AlJ R a bs ss i U W1 nb l (k + 1) A' s' o2 (((W.putObj l o').setCell ⟨nb, 0, none⟩ (i64 (k + 1))).putObj l o2) := by
  have e : Ext (fun j => j = l ∨ j = nb) W (((W.putObj l o').setCell ⟨nb, 0, none⟩ (i64 (k + 1))).putObj l o2) := (((Ext.refl _ W).putObj l o' (.inl (.inl rfl))).setCell _ _ (.inl (.inr rfl))).putObj l o2 (.inl (.inl rfl))
  have hs := h.ext.size
  refine ⟨(h.sys.keep e ?_).mono (grow.wide e.size) ?_ (fun hz => h.sys.nz (hz.elim .inl (fun h => by omega))), h.ext.trans' e ?_, ?_, ?_⟩
  · rintro j ((hj | hj) | rfl) (hk | hk) <;> subst_vars
    · exact hUl hj
    · exact hUnb hj
    · omega
    · omega
    · exact hl0 rfl
    · exact hn0 rfl
  · rintro j (hj | hj)
    · exact Nat.lt_of_lt_of_le (h.sys.lt j (.inl hj)) e.size
    · exact hj.2
  · rintro j (rfl | rfl)
    · exact .inl (.inr (.inr rfl))
    · exact .inl (.inr (.inl rfl))
  · exact (((h.n.putObj _ _ hne).set 0 (i64 (k + 1))).putObj _ _ hne)
  · refine World.putObj_heap_same ?_
    have : l < W.heap.size := by omega
    simpa [World.setCell, World.putObj] using this
/-- How the loop's body leaves the count. -/
def RdQ (W4 : World) (nb k most : Nat) : Exit → Act → World → Prop
  | .normal, _, W3 => W3 = W4.setCell ⟨nb, 0, none⟩ (i64 (k + 1)) ∧ k + 1 < most
  | .exit id, _, W3 => id = 0 ∧ W3 = W4.setCell ⟨nb, 0, none⟩ (i64 (k + 1)) ∧ k + 1 = most
  | _, _, _ => False
theorem alone_fin {R : Rout} {a : Nat} {bs : List Nat} {ss : List R.σ} {U V : Nat → Prop} {w W5 w6 : World} {A' : PA} {o o' : Obj} (h : Sys R W5 a A' bs ss V) (hV : ∀ j, V j → U j ∨ w.heap.size + 6 ≤ j) (hU : ∀ j, U j → j < w.heap.size) (hU0 : ¬ U 0) (hw0 : 0 < w.heap.size) (e : Ext U w W5) (e6 : Ext (fun _ => False) W5 w6) :
    Sys R ((w6.alloc o).putObj (w.heap.size + 4) o') a A' bs ss (grow U w ((w6.alloc o).putObj (w.heap.size + 4) o')) ∧ Ext U w ((w6.alloc o).putObj (w.heap.size + 4) o') := by
  have e7 : Ext (fun j => j = w.heap.size + 4) W5 ((w6.alloc o).putObj (w.heap.size + 4) o') := ((e6.mono fun _ _ h => h.elim).alloc o).putObj _ _ (.inl rfl)
  have hs := (h.keep e7 (by
    rintro j (hj | hj) rfl
    · rcases hV _ hj with h | h
      · have := hU _ h; omega
      · omega
    · omega))
  have e8 : Ext U w ((w6.alloc o).putObj (w.heap.size + 4) o') := e.trans' e7 fun j h => .inr (by omega)
  have hlt := hs.lt
  refine ⟨hs.mono (fun j hj => ?_) (grow.lt hU e8.size) (grow.no hU0 hw0), e8⟩
  rcases hV _ hj with h | h
  · exact .inl h
  · exact .inr ⟨by omega, hlt j hj⟩
theorem set_same {α : Type} {l : List α} {i : Nat} {s : α} (h : l[i]? = some s) : l.set i s = l := by
  apply List.ext_getElem?
  intro j
  rw [List.getElem?_set]
  by_cases hj : i = j
  · subst hj; rw [if_pos rfl, if_pos (List.getElem?_eq_some_iff.1 h).1, h]
  · rw [if_neg hj]
theorem Alone_c (R : Rout) (I : PA → R.σ → Prop) (hI : R.Closed I) (w : World) (a : Nat) (A : PA) (bs : List Nat) (ss : List R.σ) (U : Nat → Prop) (h : Sys R w a A bs ss U) (i b : Nat) (s : R.σ) (hb : bs[i]? = some b) (hs : ss[i]? = some s) (hi : I A s) (most : Nat) (hm : 1 ≤ most) (hm' : most < 1000000) :
    Calls Tryd.prog 16 #[ptr a, .iface R.ty (ptr b), i64 most] w fun e w' => e = .returned (.tuple #[i64 (R.alone most A s).2.2, .bool (R.act (R.alone most A s).2.1).isNone]) ∧
      Sys R w' a (R.alone most A s).1 bs (ss.set i (R.alone most A s).2.1) (grow U w w') ∧ Ext U w w' := by
  obtain ⟨⟨Ar, sr, kr⟩, hres⟩ : ∃ r, R.alone most A s = r := ⟨_, rfl⟩
  rw [hres]
  dsimp only
  refine (callsIn_wide (n := 4)).1 ?_
  refine callsIn_of_wp_marks Tryd.func16 rfl trivial ?_ rfl
  simp only [Tryd.ntmps16, List.size_toArray, List.length_cons, List.length_nil, Nat.reduceAdd, Nat.reduceSub, Array.replicate_succ, Array.replicate_zero, List.push_toArray, List.append_toArray, List.nil_append, List.cons_append]
  have hm2 : (0 : Int) < most := by omega
  have hn1 : 1 ≤ 4 - 1 := by decide
  gi_wp2_with (refine ⟨trivial, ?_⟩; gi_at_call 60; refine (callsIn_wide.2 (Steps_c _ _ _ _)).mono ?_; rintro e w' ⟨rfl, rfl⟩)
  obtain ⟨W0, hW0⟩ : ∃ W0, (((w.alloc (.cells #[i64 most] 3)).alloc (.cells #[i64 0] 3)).alloc (.cells #[ptr a] 26)).alloc (.cells #[.iface R.ty (ptr b)] 68) = W0 := ⟨_, rfl⟩
  have b1 : Blk W0 w.heap.size [i64 most] 3 := by rw [← hW0]; exact (((Blk.new w [i64 most] 3).alloc _).alloc _).alloc _
  have b2 : Blk W0 (w.heap.size + 1) [i64 0] 3 := by rw [← hW0]; have := Blk.new (w.alloc (.cells #[i64 most] 3)) [i64 0] 3; rw [World.size_alloc] at this; exact (this.alloc _).alloc _
  have b3 : Blk W0 (w.heap.size + 2) [ptr a] 26 := by rw [← hW0]; have := Blk.new ((w.alloc (.cells #[i64 most] 3)).alloc (.cells #[i64 0] 3)) [ptr a] 26; rw [World.size_alloc, World.size_alloc] at this; exact this.alloc _
  have b4 : Blk W0 (w.heap.size + 3) [.iface R.ty (ptr b)] 68 := by rw [← hW0]; have := Blk.new (((w.alloc (.cells #[i64 most] 3)).alloc (.cells #[i64 0] 3)).alloc (.cells #[ptr a] 26)) [.iface R.ty (ptr b)] 68; rw [World.size_alloc, World.size_alloc, World.size_alloc] at this; exact this
  have hsz : W0.heap.size = w.heap.size + 4 := by rw [← hW0]; simp
  have e0 : Ext (fun _ => False) w W0 := by rw [← hW0]; exact ((((Ext.refl _ w).alloc _).alloc _).alloc _).alloc _
  change Code.wpIn _ _ _ _ _ _ ((((w.alloc (.cells #[i64 most] 3)).alloc (.cells #[i64 0] 3)).alloc (.cells #[ptr a] 26)).alloc (.cells #[.iface R.ty (ptr b)] 68))
  rw [hW0]
  clear hW0
  have hU := h.lt; have hU0 := h.nz; have hw0 := h.pos
  have hs0 := h.keep e0 (fun _ _ h => h)
  refine wpIn_rangeFunc_rec (gf := 95) (lb := #[ptr (w.heap.size + 1 + 1), ptr (w.heap.size + 1 + 1 + 1)]) rfl (enters_of Tryd.func95 (by kernel_rfl) rfl) (by decide) ?_
  intro rec fn hrec
  rw [hsz]
  obtain ⟨W1, hW1⟩ : ∃ W1, (W0.alloc (.deferred (some []))).alloc (.loop (rec .ready none)) = W1 := ⟨_, rfl⟩
  rw [hW1]
  have hK1 : W1.heap[w.heap.size + 4]? = some (.deferred (some [])) := by
    rw [← hW1, ← hsz]; exact (Below.heap_alloc _ _ _ (by simp)).trans (World.alloc_heap_new W0 _)
  have hL1 : W1.heap[w.heap.size + 4 + 1]? = some (.loop (rec .ready none)) := by
    rw [← hW1, ← hsz]; have := World.alloc_heap_new (W0.alloc (.deferred (some []))) (.loop (rec .ready none)); rwa [World.size_alloc] at this
  have e1 : Ext (fun _ => False) W0 W1 := by rw [← hW1]; exact ((Ext.refl _ W0).alloc _).alloc _
  have hsz1 : W1.heap.size = w.heap.size + 6 := by rw [← hW1]; simp [hsz]
  clear hW1
  have hs1 := hs0.keep e1 (fun _ _ h => h)
  refine (Steps1_c (4 - 1) (by decide) (w.heap.size + 4 + 1) (w.heap.size + 1 + 1) (w.heap.size + 1 + 1 + 1) a (.iface R.ty (ptr b)) (fun W => most - cellN W (w.heap.size + 1))
    (fun W => ∃ k A' s', k < most ∧ Reach R most A s k A' s' ∧ I A' s' ∧ AlJ R a bs ss i U W1 (w.heap.size + 1) (w.heap.size + 4 + 1) k A' s' (.loop (rec .ready none)) W)
    (fun W => ∃ k A' s', Reach R most A s k A' s' ∧ R.act s' = none ∧ AlJ R a bs ss i U W1 (w.heap.size + 1) (w.heap.size + 4 + 1) k A' s' (.loop (rec .ready none)) W)
    (fun W => ∃ A' s', Reach R most A s most A' s' ∧ AlJ R a bs ss i U W1 (w.heap.size + 1) (w.heap.size + 4 + 1) most A' s' (.loop (rec .done (some (.exit 0)))) W) ?hc ?hnext W1 ?h0).mono ?after
  case hc =>
    rintro W ⟨k, A', s', hk, hr, hi', hj⟩
    have hn : ∀ j, j < W1.heap.size → w.heap.size ≤ j → j ≠ w.heap.size + 1 → j ≠ w.heap.size + 4 + 1 → ¬ (U j ∨ j = w.heap.size + 1 ∨ j = w.heap.size + 4 + 1) := by
      rintro j h1 h2 h3 h4 (h | h | h)
      · have := hU j h; omega
      · exact h3 h
      · exact h4 h
    exact ⟨((b3.ext e1 id).ext hj.ext (hn _ (by omega) (by omega) (by omega) (by omega))).cell 0 _ rfl, ((b4.ext e1 id).ext hj.ext (hn _ (by omega) (by omega) (by omega) (by omega))).cell 0 _ rfl⟩
  case h0 =>
    refine ⟨0, A, s, hm, Reach.start, hi, ⟨?_, Ext.refl _ _, b2.ext e1 id, hL1⟩⟩
    rw [set_same hs]
    exact hs1.mono (fun _ h => .inl h) (grow.lt hs1.lt (Nat.le_refl _)) (grow.no hU0 (by omega))
  case hnext =>
    rintro W ⟨k, A', s', hk, hr, hi', hj⟩
    have hs' : (ss.set i s')[i]? = some s' := List.getElem?_set_self (List.getElem?_eq_some_iff.1 hs).1
    have hun : ∀ j, w.heap.size ≤ j → ¬ U j := fun j h h' => by have := hU j h'; omega
    cases hx : R.act s' with
    | none =>
      refine (hj.sys.next0 hb hs' hx).mono ?_
      rintro e W' ⟨rfl, he⟩
      refine .inl ⟨rfl, k, A', s', hr, hx, ?_⟩
      have he2 := he.alloc (.cells noAct.vals.toArray 40)
      exact hj.of (by omega) (by omega) (hun _ (by omega)) (hun _ (by omega)) ((hj.sys.keep he2 (fun _ _ h => h)).mono (fun _ h => .inl h) (grow.lt hj.sys.lt he2.size) (grow.no hj.sys.nz hj.sys.pos)) (he2.mono (fun _ _ h => h.elim))
    | some x =>
      obtain ⟨hv, hok, hi2⟩ := hI A' s' x hi' hj.sys.ok hx
      refine (hj.sys.next hb hs' hx hv hok).mono ?_
      rintro e W' ⟨rfl, hs2, he2⟩
      refine .inr ⟨x, doG A' x, rfl, ?_⟩
      rw [List.set_set] at hs2
      have hr2 := hr.step hk hx
      have he3 := (Ext.refl (fun _ => False) W').alloc (.cells x.vals.toArray 40)
      have hj2 := hj.of (by omega) (by omega) (hun _ (by omega)) (hun _ (by omega)) ((hs2.keep he3 (fun _ _ h => h)).mono (grow.wide he3.size) (grow.lt hj.sys.lt (Nat.le_trans he2.size he3.size)) (grow.no hj.sys.nz hj.sys.pos)) (he2.alloc _)
      generalize W'.alloc (.cells x.vals.toArray 40) = W2 at hj2 ⊢
      generalize doA A' x = A2 at *
      generalize R.take s' (doG A' x) = s2 at *
      refine round_rec hrec rfl hj2.l ?_
      have hnm : ¬ (U w.heap.size ∨ w.heap.size = w.heap.size + 1 ∨ w.heap.size = w.heap.size + 4 + 1) := fun h => h.elim (hun _ (Nat.le_refl _)) (fun h => by omega)
      have n4 : Blk (W2.putObj (w.heap.size + 4 + 1) (.loop (rec .busy none))) (w.heap.size + 1) [i64 k] 3 := hj2.n.putObj _ _ (by omega)
      have m4 : Blk (W2.putObj (w.heap.size + 4 + 1) (.loop (rec .busy none))) w.heap.size [i64 most] 3 := ((b1.ext e1 id).ext hj2.ext hnm).putObj _ _ (by omega)
      have l4 : (W2.putObj (w.heap.size + 4 + 1) (.loop (rec .busy none))).heap[w.heap.size + 4 + 1]? = some (.loop (rec .busy none)) := World.putObj_heap_same (Array.getElem?_eq_some_iff.1 hj2.l).1
      generalize hW4 : W2.putObj (w.heap.size + 4 + 1) (.loop (rec .busy none)) = W4 at n4 m4 l4 ⊢
      obtain ⟨hbn, hfn, hcn⟩ := n4.open_
      obtain ⟨hbm, hfm, hcm⟩ := m4.open_
      simp only [CellsAt, Nat.reduceAdd] at hcn hcm
      have n4' := Lib.hid n4; have l4' := Lib.hid l4; have hj2' := Lib.hid hj2; have hjn0' := Lib.hid hj; have hr2' := Lib.hid hr2; have hi2' := Lib.hid hi2
      clear n4 m4 l4 hj2 hr2 hi2 hj hi' hr hs2 he2 he3
      refine wpIn_mono (Q := RdQ W4 (w.heap.size + 1) k most) ?walk ?post
      case post =>
        have hsame : ∀ o2, (((W2.putObj (w.heap.size + 4 + 1) (.loop (rec .busy none))).setCell ⟨w.heap.size + 1, 0, none⟩ (i64 (k + 1))).heap[w.heap.size + 4 + 1]? = some o2 ↔ (W2.putObj (w.heap.size + 4 + 1) (.loop (rec .busy none))).heap[w.heap.size + 4 + 1]? = some o2) := fun o2 => by rw [Below.heap_setCell _ _ _ _ (by simp)]
        rintro ex a3 W3 hq
        cases ex with
        | normal =>
          obtain ⟨rfl, hlt⟩ := hq
          subst hW4
          have hjn := hj2'.out.round (o' := .loop (rec .busy none)) (o2 := .loop (rec .ready none)) (by omega) (by omega) (hun _ (by omega)) (hun _ (by omega)) (by omega) (by omega) (by omega)
          refine ⟨(hsame _).2 l4'.out, .inl ⟨rfl, ⟨k + 1, A2, s2, hlt, hr2'.out, hi2'.out, hjn⟩, ?_⟩⟩
          have c1 : cellN W (w.heap.size + 1) = k := cellN_eq hjn0'.out.n
          have c2 := cellN_eq (n := k + 1) hjn.n
          rw [c1, c2]; omega
        | exit id =>
          obtain ⟨rfl, rfl, heq⟩ := hq
          subst hW4
          subst heq
          exact ⟨(hsame _).2 l4'.out, .inr ⟨rfl, A2, s2, hr2'.out, hj2'.out.round (by omega) (by omega) (hun _ (by omega)) (hun _ (by omega)) (by omega) (by omega) (by omega)⟩⟩
        | ret => exact hq.elim
        | goto t => exact hq.elim
        | panic ch => exact hq.elim
        | outgrown => exact hq.elim
      case walk =>
        clear hrec
        gi_wp2
        · rename_i hkm
          have hkm' : (k : Int) + 1 = most := by simpa using hkm
          exact ⟨rfl, rfl, by omega⟩
        · rename_i hkm
          have hkm' : ¬ (k : Int) + 1 = most := by simpa using hkm
          exact ⟨rfl, by omega⟩
  case after =>
    rintro e W2 ⟨hv, hjj⟩
    have hfin : ∃ st jump k A' s', (jump = none ∨ jump = some (.exit 0)) ∧ st ≠ .busy ∧ R.alone most A s = (A', s', k) ∧ AlJ R a bs ss i U W1 (w.heap.size + 1) (w.heap.size + 4 + 1) k A' s' (.loop (rec st jump)) W2 := by
      rcases hjj with ⟨k, A', s', hr, hx, hj⟩ | ⟨A', s', hr, hj⟩
      · exact ⟨_, _, k, A', s', .inl rfl, by decide, hr.stop hx, hj⟩
      · exact ⟨_, _, most, A', s', .inr rfl, by decide, hr.most, hj⟩
    obtain ⟨st, jump, k, A', s', hjump, hst, hal, hj⟩ := hfin
    refine ⟨hv, st, jump, hst, hj.l, ?_⟩
    rw [hres] at hal
    simp only [Prod.mk.injEq] at hal
    obtain ⟨rfl, rfl, rfl⟩ := hal
    have hun : ∀ j, w.heap.size ≤ j → ¬ U j := fun j h h' => by have := hU j h'; omega
    have e5 : Ext (fun j => j = w.heap.size + 4 + 1) W2 (W2.putObj (w.heap.size + 4 + 1) (.loop (rec .exhausted jump))) := (Ext.refl _ W2).putObj _ _ (.inl rfl)
    have hs2 := hj.ext.size
    have hs5 := hj.sys.keep e5 (by
      rintro j ((h | h) | h) rfl
      · exact hun _ (by omega) h
      · omega
      · omega)
    have n5 := hj.n.putObj (w.heap.size + 4 + 1) (.loop (rec .exhausted jump)) (by omega)
    have k5 : (W2.putObj (w.heap.size + 4 + 1) (.loop (rec .exhausted jump))).heap[w.heap.size + 4]? = some (.deferred (some [])) :=
      (World.putObj_heap_other (by omega)).trans ((hj.ext.keep _ (by omega) (by
        rintro (h | h | h)
        · exact hun _ (by omega) h
        · omega
        · omega)).trans hK1)
    have e6 : Ext U w (W2.putObj (w.heap.size + 4 + 1) (.loop (rec .exhausted jump))) := ((((e0.trans e1).mono fun _ _ h => h.elim).trans' hj.ext fun j h => by
      rcases h with h | h | h
      · exact .inl h
      · exact .inr (by omega)
      · exact .inr (by omega)).trans' e5 fun j h => .inr (by omega))
    have hV : ∀ j, grow U W1 W2 j → U j ∨ w.heap.size + 6 ≤ j := by
      rintro j (h | h)
      · exact .inl h
      · exact .inr (by omega)
    generalize grow U W1 W2 = V at hs5 hV
    generalize W2.putObj (w.heap.size + 4 + 1) (.loop (rec .exhausted jump)) = W5 at hs5 n5 k5 e6 ⊢
    clear hj hst hs2 e5 hrec hs1 hL1 hK1 e1 hs0 e0 b1 b2 b3 b4
    have hs' : (ss.set i sr)[i]? = some sr := List.getElem?_set_self (List.getElem?_eq_some_iff.1 hs).1
    obtain ⟨F, hrep, hF⟩ := hs5.rep hb hs'
    have hAct := R.actC hrep
    obtain ⟨hbn, hfn, hcn⟩ := n5.open_
    simp only [CellsAt, Nat.reduceAdd] at hcn
    have mA := R.mA b; have cA := R.cA
    have hs5' := Lib.hid hs5; have k5' := Lib.hid k5; have e6' := Lib.hid e6; have n5' := Lib.hid n5; have hV' := Lib.hid hV
    clear hs5 k5 e6 hF n5 hV
    cases hx : R.act sr with
    | none =>
      rw [hx, actV_none] at hAct
      have hAct' := Lib.hid hAct; clear hAct
      rcases hjump with rfl | rfl
      · show Exit.inBlock 0 _ .normal _ _
        gi_wp2_with (refine ⟨trivial, ?_⟩; refine (callsIn_wide.2 hAct'.out).mono ?_; rintro e w6 ⟨rfl, hw6⟩; obtain ⟨hbn6, hfn6, hcn6⟩ := (n5'.out.ext hw6 id).open_; simp only [CellsAt, Nat.reduceAdd] at hcn6; have hw6' := Lib.hid hw6; clear hw6)
        refine ⟨by simp, .inl ⟨_, _, rfl, run_takeDeferred ((hw6'.out.alloc _).keep _ (Array.getElem?_eq_some_iff.1 k5'.out).1 id |>.trans k5'.out), ?_⟩⟩
        refine ⟨.tuple #[i64 kr, .bool true], by simp [results, Tryd.results16, go_sem], by rw [hx]; rfl, ?_⟩
        exact alone_fin hs5'.out hV'.out hU hU0 hw0 e6'.out hw6'.out
      · show Code.wpIn _ _ _ _ _ _ _
        gi_wp2_with (refine ⟨trivial, ?_⟩; refine (callsIn_wide.2 hAct'.out).mono ?_; rintro e w6 ⟨rfl, hw6⟩; obtain ⟨hbn6, hfn6, hcn6⟩ := (n5'.out.ext hw6 id).open_; simp only [CellsAt, Nat.reduceAdd] at hcn6; have hw6' := Lib.hid hw6; clear hw6)
        refine ⟨by simp, .inl ⟨_, _, rfl, run_takeDeferred ((hw6'.out.alloc _).keep _ (Array.getElem?_eq_some_iff.1 k5'.out).1 id |>.trans k5'.out), ?_⟩⟩
        refine ⟨.tuple #[i64 kr, .bool true], by simp [results, Tryd.results16, go_sem], by rw [hx]; rfl, ?_⟩
        exact alone_fin hs5'.out hV'.out hU hU0 hw0 e6'.out hw6'.out
    | some x =>
      obtain ⟨kd, bl, cl, od, nw⟩ := x
      rw [hx, actV_some] at hAct
      simp only [AV.vals] at hAct
      have hAct' := Lib.hid hAct; clear hAct
      rcases hjump with rfl | rfl
      · show Exit.inBlock 0 _ .normal _ _
        gi_wp2_with (refine ⟨trivial, ?_⟩; refine (callsIn_wide.2 hAct'.out).mono ?_; rintro e w6 ⟨rfl, hw6⟩; obtain ⟨hbn6, hfn6, hcn6⟩ := (n5'.out.ext hw6 id).open_; simp only [CellsAt, Nat.reduceAdd] at hcn6; have hw6' := Lib.hid hw6; clear hw6)
        refine ⟨by simp, .inl ⟨_, _, rfl, run_takeDeferred ((hw6'.out.alloc _).keep _ (Array.getElem?_eq_some_iff.1 k5'.out).1 id |>.trans k5'.out), ?_⟩⟩
        refine ⟨.tuple #[i64 kr, .bool false], by simp [results, Tryd.results16, go_sem], by rw [hx]; rfl, ?_⟩
        exact alone_fin hs5'.out hV'.out hU hU0 hw0 e6'.out hw6'.out
      · show Code.wpIn _ _ _ _ _ _ _
        gi_wp2_with (refine ⟨trivial, ?_⟩; refine (callsIn_wide.2 hAct'.out).mono ?_; rintro e w6 ⟨rfl, hw6⟩; obtain ⟨hbn6, hfn6, hcn6⟩ := (n5'.out.ext hw6 id).open_; simp only [CellsAt, Nat.reduceAdd] at hcn6; have hw6' := Lib.hid hw6; clear hw6)
        refine ⟨by simp, .inl ⟨_, _, rfl, run_takeDeferred ((hw6'.out.alloc _).keep _ (Array.getElem?_eq_some_iff.1 k5'.out).1 id |>.trans k5'.out), ?_⟩⟩
        refine ⟨.tuple #[i64 kr, .bool false], by simp [results, Tryd.results16, go_sem], by rw [hx]; rfl, ?_⟩
        exact alone_fin hs5'.out hV'.out hU hU0 hw0 e6'.out hw6'.out
end Go.Proofs.YtlbphffnbhoghaaDoor
