/- ExtendOne: however several who link next tables come between one another, just one is linked, and no other one is left. No condition but the form's own; the desk's bounds are tied to the program's text. -/
import Derived.Test.YtlbphffnbhoghaaDoorExtOne
import Derived.Test.YtlbphffnbhoghaaDoorLaw
import Derived.SevenTiedAt
namespace Go.Proofs.YtlbphffnbhoghaaDoor.extOne
open Go.ChangeShapes Go.WideShapes Go.ChangeAt Go.RowKit
set_option maxRecDepth 100000
set_option linter.unusedVariables false
set_option linter.unusedSimpArgs false

/-- Too few, too many, or too many picks: the probe answers. -/
theorem guard_yes (W : World) (o : Option Addr) (n c : Nat) (room : Int) (po : Option Addr) (m pc : Nat) (hn : n ≤ maxLen) (hm : m ≤ maxLen) (h : n = 0 ∨ 8 < n ∨ 100 < m) :
    Calls Tryd.prog 6 #[.slice o n c, .int .u8 room, .slice po m pc] W (RetN (.bool true) W) := by
  unfold maxLen at hn hm
  have hAw := fun W => awakeE_c W
  have hAw' := Lib.hid hAw; clear hAw
  obtain ⟨N, hN⟩ : ∃ N : Int, (n : Int) = N := ⟨_, rfl⟩
  obtain ⟨M, hM⟩ : ∃ M : Int, (m : Int) = M := ⟨_, rfl⟩
  have hN9 : N ≤ 9223372036854775807 := by omega
  have hM9 : M ≤ 9223372036854775807 := by omega
  by_cases h0 : n = 0
  · have hN0 : (N == 0) = true := by simp; omega
    go_enter Tryd.func6, Tryd.ntmps6
    go_wp2_with (go_at_call 31; refine use_n (hAw'.out _) (fun w1 h1 => ?_); have h1' := Lib.hid h1; clear h1)
    go_ret
    exact ⟨rfl, h1'.out⟩
  · have hN0 : (N == 0) = false := by simp; omega
    have hNp : 0 < N := by omega
    by_cases h8 : 8 < n
    · have h8' : 8 < N := by omega
      go_enter Tryd.func6, Tryd.ntmps6
      go_wp2_with (go_at_call 31; refine use_n (hAw'.out _) (fun w1 h1 => ?_); have h1' := Lib.hid h1; clear h1)
      go_ret
      exact ⟨rfl, h1'.out⟩
    · have h8' : N ≤ 8 := by omega
      have h1' : 100 < M := by omega
      go_enter Tryd.func6, Tryd.ntmps6
      go_wp2_with (go_at_call 31; refine use_n (hAw'.out _) (fun w1 h1 => ?_); have h1' := Lib.hid h1; clear h1)
      go_ret
      exact ⟨rfl, h1'.out⟩
theorem paramsRead : ∀ t ∈ Tryd.f6.params.toList, Tryd.prog.readableRec t = true ∧ t < Tryd.prog.types.size := by
  intro t ht
  rw [Tryd.params6] at ht
  simp only [List.mem_cons, List.not_mem_nil, or_false] at ht
  rcases ht with rfl | rfl | rfl <;> exact ⟨by kernel_rfl, of_decide_eq_true (by kernel_rfl)⟩
theorem contract (H : Type) (enc : TypeId × Value → H) (W : World) (base : Nat) (args : Array Value) (ds gs : List (DataW H)) (before : List MemPlace)
    (hval : ∀ (j : Nat) t v, Tryd.f6.params[j]? = some t → args[j]? = some v → Value.okWide Tryd.prog W .any base t v)
    (hW : DataW.Whole enc Tryd.prog Tryd.f6.params.toList Rows.extendOneSpec.vars false W args.toList ds gs before) (hL : laidMetH Tryd.prog Rows.extendOneRow.laid W) :
    Calls Tryd.prog 6 args W fun e W' => ∃ v, e = .returned v ∧ Rows.extendOneSpec.post enc Tryd.prog Tryd.f6 false true false false W args v W' := by
  have hW' := hW
  obtain ⟨p, q, hA, hV, rfl, hfz, hnd⟩ := hW
  rw [Tryd.params6] at hA hval
  obtain ⟨v0, vs0, d0, ds0, p0, q0, hargs, rfl, rfl, h0, r0⟩ := trodAll_cons hA
  obtain ⟨v1, vs1, d1, ds1, p1, q1, rfl, rfl, rfl, h1, r1⟩ := trodAll_cons r0
  obtain ⟨v2, vs2, d2, ds2, p2, q2, rfl, rfl, rfl, h2, r2⟩ := trodAll_cons r1
  obtain ⟨rfl, rfl, rfl⟩ := trodAll_nil r2
  obtain rfl : args = #[v0, v1, v2] := by cases args; simp_all
  obtain ⟨o, c, zs, rfl, hm0, hz, hzw⟩ := ints_arg Tryd.underlying73 Tryd.underlying5 cellsU8 h0 (hval 0 _ _ rfl rfl)
  obtain ⟨room, rfl, rfl, rfl, hrw⟩ := open_int Tryd.underlying5 (hval 1 _ v1 rfl rfl) h1
  obtain ⟨po, pc, ks, rfl, hm2, hk, hkw⟩ := ints_arg Tryd.underlying62 Tryd.underlying3 cellsInt h2 (hval 2 _ _ rfl rfl)
  have hB := bnd_of hL
  have hr := bounds_u8 hrw
  have walk : Calls Tryd.prog 6 #[.slice o zs.length c, .int .u8 room, .slice po ks.length pc] W (RetN (.bool true) W) := by
    by_cases hg : zs.length = 0 ∨ 8 < zs.length ∨ 100 < ks.length
    · exact guard_yes W o _ c room po _ pc hm0 hm2 hg
    · obtain ⟨b, off, rfl, hb, hcell⟩ := hz (fun e => by subst e; simp at hg)
      exact ExtendOne_main W hB zs (by omega) (by omega) b off c hb hcell (fun z hz => by have := bounds_u8 (hzw z hz); omega) room (by omega) (by omega) po pc ks (fun hne => by obtain ⟨b, o, h1, h2, h3⟩ := hk hne; exact ⟨b, o, h1, id, h2, h3⟩) (fun z hz => by have := bounds_i64 (hkw z hz); omega) (by omega)
  refine walk.mono ?_
  rintro e W' ⟨rfl, hE⟩
  exact ⟨_, rfl, law_post Tryd.underlying4 rfl rfl rfl rfl rfl paramsRead hW' (hE.below (fun _ _ h => h.elim) (Nat.le_refl _))⟩

noncomputable def laidWorld (os : Os) : World :=
  { World.holding Tryd.prog os ⟨#[], #[], []⟩ with heap := (World.holding Tryd.prog os ⟨#[], #[], []⟩).heap.modify 0 fun
      | .cells _ t frozen => .cells #[i64 1, i64 64, i64 1, i64 64] t frozen
      | o => o }
abbrev wit : Array Value := #[.slice none 0 0, .int .u8 0, .slice none 0 0]
theorem laid_met (os : Os) : laidMet Tryd.prog Rows.extendOneRow.laid ((laidWorld os).forCall (fun _ _ => 0) ⟨#[], wit, []⟩).memory :=
  laidMet_of_run' 8 (by kernel_rfl) (by kernel_rfl)
theorem reads (os : Os) {H : Type} (enc : TypeId × Value → H) : ∃ places, DataW.whole enc Tryd.prog ((laidWorld os).forCall (fun _ _ => 0) ⟨#[], wit, []⟩).memory Tryd.f6.params.toList Rows.extendOneSpec.vars false wit.toList 8 = some ([.nil, .lit (.int .u8 0), .nil], [], places) :=
  ⟨[], by kernel_rfl⟩
theorem lifted (os : Os) (started : os.Started) (H : Type) (enc : TypeId × Value → H) (F : Stop.Interp) :
    ReturnsInHanded {} Tryd.checked os 6 .any ((OpenSpec.ofChange Rows.extendOneSpec).preRow enc Tryd.prog Tryd.f6 Rows.extendOneRow.domain false Rows.extendOneRow.laid) (((OpenSpec.ofChange Rows.extendOneSpec).at F).post enc Tryd.prog Tryd.f6 false true false false) := by
  obtain ⟨places, hx⟩ := reads os enc
  refine returnsInHanded_of_row (C := Tryd.checked) (s := OpenSpec.ofChange Rows.extendOneSpec) ownKnob_none started (by kernel_rfl) Tryd.func6
    (witness_row_at (enc := enc) (C := Tryd.checked) false (laidWorld os) wit rfl (by kernel_rfl) (by kernel_rfl) (by kernel_rfl)
      (OpenSpec.preRow_of_cond 8 hx (by kernel_rfl) (fun k hk => by cases hk) (by kernel_rfl) (laid_met os))) ?_
  intro W base args ds gs before hval hW _ _ _ hL _ _
  exact contract H enc W base args ds gs before hval hW hL
theorem said : Rows.ExtendOneSaid :=
  OpenClaim.holds_of_cond 6 Tryd.f6 rfl rfl rfl rfl rfl rfl rfl ⟨rfl, rfl, rfl, rfl, rfl⟩ rfl rfl rfl rfl rfl (by kernel_rfl) Tryd.func6 (by kernel_rfl)
    (of_decide_eq_true (by kernel_rfl)) (by unfold Func.isWrapper; first | (rw [if_pos (by decide +kernel)]; kernel_rfl) | (rw [if_neg (by decide +kernel)]; exact ⟨rfl, rfl⟩))
    (fun os started H enc _ F => by rw [OpenClaim.pre_eq_preRow]; exact lifted os started H enc F)
theorem plain (f : FuncId) (fn : Func) (hf : Tryd.pinned.checked.prog.funcNamed "sprocket/sprocketlaw26.ExtendOne" = some f) (hfn : Tryd.pinned.checked.prog.funcs[f]? = some fn) :
    false = Tryd.pinned.checked.prog.looks [] ∧ ∀ (j : Nat) t, fn.params[j]? = some t → Tryd.pinned.checked.prog.wantsStandIn t = false := by
  obtain rfl : f = 6 := Option.some.inj ((show Tryd.prog.funcNamed "sprocket/sprocketlaw26.ExtendOne" = some 6 by kernel_rfl).symm.trans hf) |>.symm
  obtain rfl : fn = Tryd.f6 := (Option.some.inj (Tryd.func6.symm.trans hfn)).symm
  refine ⟨by kernel_rfl, fun j t ht => ?_⟩
  rw [Tryd.params6] at ht
  have hm := Array.mem_of_getElem? ht
  simp only [List.mem_toArray, List.mem_cons, List.not_mem_nil, or_false] at hm
  rcases hm with rfl | rfl | rfl
  · exact (show Tryd.prog.wantsStandIn 73 = false by kernel_rfl)
  · exact (show Tryd.prog.wantsStandIn 5 = false by kernel_rfl)
  · exact (show Tryd.prog.wantsStandIn 62 = false by kernel_rfl)
/-- The card. -/
theorem card : Rows.ExtendOneCardSaid :=
  Claim7.holds_tied_plain_at .later [] _ _ _ _ said (fun _ h => by cases h) (by kernel_rfl) (fun _ h => by cases h) extendOne_row_tie rfl ⟨rfl, rfl⟩ (by kernel_rfl) rfl plain (by kernel_rfl)
#print axioms card
end Go.Proofs.YtlbphffnbhoghaaDoor.extOne
