/- From a law's walk to its row: slices and numbers that come in, the desk's bounds, and what the row asks behind the call. -/
import Derived.Test.YtlbphffnbhoghaaDoorCards
import Derived.Test.YtlbphffnbhoghaaDoorTie
import Derived.Test.YtlbphffnbhoghaaDoorNum
import Derived.ProofKit
import Derived.OpenShut
import Derived.Deep.DeepHandedRow
import Derived.Lib.LaidTab
import Derived.OpenVars
namespace Go.Proofs.YtlbphffnbhoghaaDoor
open Go.ChangeShapes Go.WideShapes Go.ChangeAt Go.RowKit
set_option maxRecDepth 100000
set_option linter.unusedVariables false
set_option linter.unusedSimpArgs false

theorem ownKnob_none : ownKnob Tryd.prog.godebug = none := by kernel_rfl
theorem laidOut : laidOutB Tryd.prog = true := by kernel_rfl
/-- All arguments read behind the call as they did. -/
theorem args_stay {H : Type} {enc : TypeId × Value → H} {W W' : World} (hb : Below W.heap.size W W') (sp : Nat → Bool) :
    ∀ {ts : List TypeId} {vs : List Value} {ds : List (DataW H)} {ps : List MemPlace}, (∀ t ∈ ts, Tryd.prog.readableRec t = true ∧ t < Tryd.prog.types.size) → (∀ p ∈ ps, p.block < W.heap.size) → (∀ p ∈ ps, sp p.block = true) →
      DataW.TrodAll enc Tryd.prog W 0 (fun _ => true) true ts vs ds ps → DataW.TrodAll enc Tryd.prog W' 0 sp true ts vs ds ps
  | [], [], [], _, _, _, _, h => h
  | [], [], _ :: _, _, _, _, _, h => h.elim
  | [], _ :: _, _, _, _, _, _, h => h.elim
  | _ :: _, [], _, _, _, _, _, h => h.elim
  | _ :: _, _ :: _, [], _, _, _, _, h => h.elim
  | t :: ts, v :: vs, d :: ds, ps, hr, hlt, hsp, h => by
    obtain ⟨p, q, h1, h2, rfl⟩ := h
    have hlt1 : ∀ x ∈ p, x.block < W.heap.size := fun x hx => hlt x (List.mem_append_left _ hx)
    have h3 := WideElems.Trod_stays laidOut (hr t List.mem_cons_self).1 (hr t List.mem_cons_self).2 (sp' := sp) h1 (fun x hx => hb.same (hlt1 x hx)) (fun x hx => hsp x (List.mem_append_left _ hx))
    exact ⟨p, q, h3, args_stay hb sp (fun t ht => hr t (List.mem_cons_of_mem _ ht)) (fun x hx => hlt x (List.mem_append_right _ hx)) (fun x hx => hsp x (List.mem_append_right _ hx)) h2, rfl⟩
/-- What the row asks behind a call that hands back true and leaves all old memory as it was. -/
theorem law_post {H : Type} {enc : TypeId × Value → H} {f : Func} {s : ChangeSpec} {W W' : World} {args : Array Value} {ds gs : List (DataW H)} {before : List MemPlace} {boolT : TypeId} (hu : Tryd.prog.underlying boolT = some .bool)
    (hvars : s.vars = []) (hres : (s.fn H ds).results = [.lit (.bool true)]) (hargs : (s.fn H ds).args = ds) (hvs : (s.fn H ds).vars = []) (hrt : f.resultTypes = #[boolT])
    (hpar : ∀ t ∈ f.params.toList, Tryd.prog.readableRec t = true ∧ t < Tryd.prog.types.size) (hW : DataW.Whole enc Tryd.prog f.params.toList s.vars false W args.toList ds gs before) (hb : Below W.heap.size W W') :
    s.post enc Tryd.prog f false true false false W args (.bool true) W' := by
  have hlt := hW.lt
  have hW' := hW
  obtain ⟨p, q, hA, hV, rfl, hfz, _⟩ := hW
  rw [hvars] at hV
  obtain ⟨rfl, rfl⟩ := trodVars_none hV
  simp only [List.append_nil] at hlt hW'
  refine ⟨ds, [], p, [], p, [], hW', ?_, ?_, ?_, ?_, fun h => by cases h⟩
  · rw [List.append_nil, hres, hrt]
    exact trodAll_cons_mk (shut_bool hu _) trodAll_mk0
  · rw [List.append_nil, hargs]
    exact args_stay hb _ hpar hlt (fun x hx => by simpa using hlt x hx) hA
  · rw [List.append_nil, hvars, hvs]; exact rfl
  · exact World.keptBut_mono (fun x hx => ⟨hx, .inr (.inl hx)⟩) (hb.frame (· ∈ p))
/-- A slice of whole numbers that came in. -/
theorem ints_arg {H : Type} {enc : TypeId × Value → H} {W : World} {t e : TypeId} {k : IntKind} {v : Value} {d : DataW H} {ps : List MemPlace} (ht : Tryd.prog.underlying t = some (.slice e)) (he : Tryd.prog.underlying e = some (.int k)) (hc : Tryd.prog.cellsOf e = 1)
    (h : DataW.Trod enc Tryd.prog W 0 (fun _ => true) true t v d ps) {b0 : Nat} (hval : Value.okWide Tryd.prog W .any b0 t v) :
    ∃ (o : Option Addr) (c : Nat) (zs : List Int), v = .slice o zs.length c ∧ zs.length ≤ maxLen ∧ (zs ≠ [] → ∃ b off, o = some ⟨b, off, none⟩ ∧ b < W.heap.size ∧ ∀ (i : Nat) (z : Int), zs[i]? = some z → W.cell? ⟨b, off + i, none⟩ = some (.int k z)) ∧ ∀ z ∈ zs, (Lit.int k z).wf = true := by
  obtain ⟨o0, n0, c0, rfl⟩ := okWide_slice ht hval
  obtain ⟨fuel, hf⟩ := h
  rcases open_ints ht he hc hf with ⟨h1, _⟩ | ⟨a, len, cap, zs, h1, _, hl, hm, hz, _, hcell, hw⟩
  · simp [Value.cells] at h1
    obtain ⟨rfl, rfl, rfl⟩ := h1
    exact ⟨none, 0, [], rfl, Nat.zero_le _, fun h => absurd rfl h, fun z hz => by cases hz⟩
  · simp [Value.cells] at h1
    obtain ⟨rfl, rfl, rfl⟩ := h1
    simp only [if_true] at hz
    have hlen : (zs.take n0).length = n0 := by rw [List.length_take]; omega
    refine ⟨some a, c0, zs.take n0, by rw [hlen], by rw [hlen]; omega, fun hne => ?_, fun z hz => hw z (List.mem_of_mem_take hz)⟩
    have h0 : 0 < zs.length := by
      rcases Nat.eq_zero_or_pos zs.length with h0 | h0
      · have : zs = [] := List.eq_nil_of_length_eq_zero h0
        subst this; simp at hne
      · exact h0
    obtain ⟨b, off, spot⟩ := a
    have hs : spot = none := by simpa [Addr.add] using World.cell?_spot (hcell 0 h0)
    subst hs
    refine ⟨b, off, rfl, ?_, fun i z hi => ?_⟩
    · have h2 := hcell 0 h0
      rw [add_plain] at h2
      unfold World.cell? at h2
      cases hh : W.heap[b]? with
      | none => simp [hh] at h2
      | some o => exact (Array.getElem?_eq_some_iff.1 hh).1
    · have hi' : i < zs.length := by
        have := (List.getElem?_eq_some_iff.1 hi).1
        simp at this; omega
      have h2 := hcell i hi'
      rw [add_plain] at h2
      rw [h2]
      rw [List.getElem?_take] at hi
      split at hi
      · rw [List.getD_eq_getElem?_getD, hi]; rfl
      · cases hi
theorem gBounds : Tryd.prog.globalNamed "sprocket/desk.bounds" = some 0 := by kernel_rfl
theorem gBoundsType : (Tryd.prog.globals[0]?).map (·.type) = some 186 := by kernel_rfl
theorem cellsBounds : Tryd.prog.cellsOf 186 = 4 := by kernel_rfl
theorem cellsBound : Tryd.prog.cellsOf 185 = 2 := by kernel_rfl
theorem cellsInt : Tryd.prog.cellsOf 3 = 1 := by kernel_rfl
theorem cellsU8 : Tryd.prog.cellsOf 5 = 1 := by kernel_rfl
theorem two_ints {w : World} {fuel : Nat} {cs : List Value} {x y : Int} {p : List MemPlace} (h : DataW.trod (fun _ => ()) Tryd.prog w 0 (fun _ => true) false fuel 185 cs = some (.agg [.lit (.int .i64 x), .lit (.int .i64 y)], p)) :
    cs = [i64 x, i64 y] := by
  obtain ⟨y0, y1, n, hx, hl, h0, h1⟩ := trod_struct2 Tryd.underlying185 h
  rw [cellsBound] at hl
  match cs, hl with
  | [a, b], _ =>
    simp only [Prod.mk.injEq, DataW.agg.injEq, List.cons.injEq, and_true] at hx
    obtain ⟨⟨e0, e1⟩, _⟩ := hx
    simp only [cellsInt] at h0 h1
    obtain ⟨z0, c0, r0, _⟩ := DataW.trod_int Tryd.underlying3 h0
    obtain ⟨z1, c1, r1, _⟩ := DataW.trod_int Tryd.underlying3 h1
    simp at c0 c1
    subst c0; subst c1
    rw [r0] at e0; rw [r1] at e1
    simp at e0 e1
    rw [e0, e1]
/-- The bounds lie as the program lays them. -/
theorem bnd_of {W : World} (h : laidMetH Tryd.prog [("sprocket/desk.bounds", Rows.laid_sprocket_desk_bounds)] W) : Bnd W := by
  obtain ⟨ps, ⟨g', t', cs, fuel, p, q, hg', ht', hvar, hd, _, _⟩, _⟩ := h
  obtain rfl := Option.some.inj (gBounds.symm.trans hg')
  obtain rfl := Option.some.inj (gBoundsType.symm.trans ht')
  obtain ⟨xs, m, _, hx, hl, hn, hi⟩ := DataW.trod_array Tryd.underlying186 hd
  rw [cellsBounds] at hl
  have hcell := fun i => World.var?_cell gBounds hvar i
  obtain ⟨l, rfl⟩ : ∃ l : List Value, cs = l.toArray := ⟨cs.toList, by simp⟩
  simp only [cellsBound] at hi
  match l, hl, xs, hn with
  | [a, b, c, d], _, [x0, x1], _ =>
    simp only [Rows.laid_sprocket_desk_bounds, Prod.mk.injEq, DataW.agg.injEq, List.map_cons, List.map_nil, List.cons.injEq, and_true] at hx
    obtain ⟨⟨e0, e1⟩, _⟩ := hx
    obtain ⟨x0, p0⟩ := x0
    obtain ⟨x1, p1⟩ := x1
    dsimp only at e0 e1
    subst e0; subst e1
    have h0 := two_ints (hi 0 (by decide))
    have h1 := two_ints (hi 1 (by decide))
    simp at h0 h1
    obtain ⟨rfl, rfl⟩ := h0
    obtain ⟨rfl, rfl⟩ := h1
    refine ⟨by simpa using hcell 0, by simpa using hcell 1, by simpa using hcell 2, by simpa using hcell 3, ?_⟩
    have h2 := hcell 0
    unfold World.cell? at h2
    cases hh : W.heap[0]? with
    | none => simp [hh] at h2
    | some o => exact (Array.getElem?_eq_some_iff.1 hh).1
end Go.Proofs.YtlbphffnbhoghaaDoor
