/- ExtendOne's walk, behind its guard: it answers true. -/
import Derived.Test.YtlbphffnbhoghaaDoorExtEnd
namespace Go.Proofs.YtlbphffnbhoghaaDoor
open Go.RowKit
set_option maxRecDepth 100000
set_option linter.unusedVariables false
set_option linter.unusedSimpArgs false
set_option maxHeartbeats 4000000

theorem ExtendOne_main (w : World) (hB : Bnd w) (logs : List Int) (hl1 : 1 ≤ logs.length) (hl2 : logs.length ≤ 8) (lb lo lc : Nat) (hlb : lb < w.heap.size) (hlc : ∀ (i : Nat) (z : Int), logs[i]? = some z → w.cell? ⟨lb, lo + i, none⟩ = some (.int .u8 z)) (hlr : ∀ z ∈ logs, 0 ≤ z ∧ z < 256)
    (room : Int) (hr0 : 0 ≤ room) (hr1 : room < 256) (po : Option Addr) (pc : Nat) (picks : List Int) (hp : PicksAt w (fun _ => False) po picks) (hpr : ∀ z ∈ picks, -9223372036854775808 ≤ z ∧ z < 9223372036854775808) (hpn : picks.length ≤ 100) :
    Calls Tryd.prog 6 #[.slice (some ⟨lb, lo, none⟩) logs.length lc, .int .u8 room, .slice po picks.length pc] w (RetN (.bool true) w) := by
  have ht0 : tsize 0 = 16 := by decide
  have hF := fun W (hB : Bnd W) => Field_c W (200 + 8 * room) 1 0 (by decide) (by decide) (by decide) (by decide) (by omega) (by omega) hB
  have hU := fun W a FA (h : ArRep W a (fieldA (200 + 8 * room) 1 0) FA) => Used_c W a _ FA h
  have hu : (fieldA (200 + 8 * room) 1 0).used = 20 := by
    have : tsize 0 = 16 := by decide
    simp [fieldA, fieldA4, fieldA3, fieldA2, fieldA1, PA.put, PA.alloc, PA.new, this]
  rw [hu] at hU
  have hF' := Lib.hid hF; have hU' := Lib.hid hU; have hB' := Lib.hid hB; have hlc' := Lib.hid hlc; have hlr' := Lib.hid hlr; have hp' := Lib.hid hp; have hpr' := Lib.hid hpr
  have hw0' : Hid (0 < w.heap.size) := Lib.hid hB.2.2.2.2
  clear ht0 hF hU hB hu hlc hlr hp hpr
  obtain ⟨N, hN⟩ : ∃ N : Int, (logs.length : Int) = N := ⟨_, rfl⟩
  obtain ⟨M, hM⟩ : ∃ M : Int, (picks.length : Int) = M := ⟨_, rfl⟩
  have hN1 : 1 ≤ N := by omega
  have hN8 : N ≤ 8 := by omega
  have hM1 : M ≤ 100 := by omega
  have hN0 : (N == 0) = false := by simp; omega
  go_enter Tryd.func6, Tryd.ntmps6
  go_wp2_with (first
    | (go_at_call 12; go_must (refine (hF'.out _ hB'.out).mono ?_); rintro e w1 ⟨a, rfl, ⟨FA, hr, hFA⟩, he⟩; have hr1' := Lib.hid hr; have hFA1' := Lib.hid hFA; have he1' := Lib.hid he; clear hr hFA he)
    | (go_at_call 32; go_must (refine use_s (hU'.out _ _ _ (hr1'.out.ext0 ((Ext.refl (fun _ => False) _).alloc _))) ?_)))
  go_loopw [10, 11, 12] (fun v10 v11 iv wr => ∃ (k : Nat) (bs : List Nat) (V : Nat → Prop), iv = i64 k ∧ E1 w a (fieldA (200 + 8 * room) 1 0) logs w1.heap.size k v10 v11 bs V wr) (fun _ _ iv _ => logs.length - (intOf iv).toNat)
  case atStart =>
    have hltA := hr1'.out.lt
    have h10 := (World.ownsRow_lit (base := w.heap.size) (e := 68) (size := 1) (w1.alloc (.cells #[.int .u64 2, .int .i64 0] 29)) #[] 0 (by have := he1'.out.size; rw [World.size_alloc]; omega) (by decide) rfl).alloc (.cells #[] 83)
    have h11 := World.ownsRow_lit (base := w.heap.size) (e := 83) (size := 1) ((w1.alloc (.cells #[.int .u64 2, .int .i64 0] 29)).alloc (.cells #[] 68)) #[] 0 (by have := he1'.out.size; rw [World.size_alloc, World.size_alloc]; omega) (by decide) rfl
    rw [World.size_alloc] at h10
    rw [World.size_alloc, World.size_alloc] at h11
    refine ⟨0, [], FA, rfl, ⟨hw0'.out, Nat.zero_le _, rfl, h10, h11, (Sys.start rExt hr1'.out (fun h => by have := hFA1'.out _ h; have := hw0'.out; omega)).keep0 ((((Ext.refl _ w1).alloc _).alloc _).alloc _), hFA1'.out, fun h => Nat.lt_irrefl _ (hltA _ h), ?_, ?_, ?_, ((Blk.new w1 [.int .u64 2, .int .i64 0] 29).alloc _).alloc _, ((he1'.out.alloc _).alloc _).alloc _⟩⟩
    · intro g hg
      have : w1.heap.size + 1 = g := by simpa [Value.ownBlock] using hg
      subst this
      exact ⟨fun h => by have := hltA _ h; omega, by omega⟩
    · intro g hg
      have : w1.heap.size + 1 + 1 = g := by simpa [Value.ownBlock] using hg
      subst this
      exact ⟨fun h => by have := hltA _ h; omega, by omega⟩
    · intro g hg hg'
      have h1 : w1.heap.size + 1 = g := by simpa [Value.ownBlock] using hg
      have h2 : w1.heap.size + 1 + 1 = g := by simpa [Value.ownBlock] using hg'
      omega
  case round =>
    obtain ⟨k, bs, V, rfl, hr⟩ := hrel
    by_cases hq : k < logs.length
    · have hz1 := hlc'.out k logs[k] (List.getElem?_eq_getElem hq)
      have hz2 := (hr.e.cell hlb id (lo + k)).trans hz1
      have hzr1 := hlr'.out _ (List.getElem_mem hq)
      generalize hz0 : logs[k] = z at hz2 hzr1
      obtain ⟨hlt8, hf8, hc8⟩ := hr.b8.open_
      simp only [CellsAt, Nat.reduceAdd] at hc8
      obtain ⟨z4, hz4⟩ : ∃ z4, z.tmod 4 = z4 := ⟨_, rfl⟩
      obtain ⟨z2, hz2'⟩ : ∃ z2, z.tmod 2 = z2 := ⟨_, rfl⟩
      have hz4r : 0 ≤ z4 ∧ z4 < 4 := by rw [← hz4]; exact ⟨Int.tmod_nonneg 4 hzr1.1, Int.tmod_lt_of_pos z (by decide)⟩
      have hz2r : 0 ≤ z2 ∧ z2 < 2 := by rw [← hz2']; exact ⟨Int.tmod_nonneg 2 hzr1.1, Int.tmod_lt_of_pos z (by decide)⟩
      have hNew := fun W => Ext_New_c W 2 0 z4 (z2 + 1) (by decide) (by decide) (by decide) (by decide) (by omega) (by omega) (by omega)
      have hNew' := Lib.hid hNew; have hr' := Lib.hid hr; have hz0' := Lib.hid hz0
      clear hNew hr hz1 hz0
      go_wp2
      have hk0 : (0 : Int) ≤ (k : Int) := by omega
      have hkN : (k : Int) < N := by omega
      have hkL : (k : Int) < (logs.length : Int) := by omega
      have hwz : IntKind.i64.wrap z = z := wrapi z (by omega) (by omega)
      have hw3 : IntKind.i64.wrap (z2 + 1) = z2 + 1 := wrapi _ (by omega) (by omega)
      go_region_with ((go_at_call 33; (with_reducible refine (hNew'.out _).mono ?_); rintro e w2 ⟨b, rfl, hB, hE, hge⟩; have hB' := Lib.hid hB; have eN' := Lib.hid (((Ext.refl (fun _ => False) wr).drew).trans hE); clear hB hE))
      all_goals (
        obtain ⟨tx, hx1, hx2, hx3, hx4⟩ := info_parts infoX
        have hnb' : Hid (∀ (W : World) (o1 : Obj), (W.alloc o1).heap[W.heap.size]? = some o1) := Lib.hid fun W o1 => World.alloc_heap_new W o1
        have h1a : Hid (∀ u ∈ [ptr b], u.oneCell' = true) := Lib.hid fun u hu => by simp only [List.mem_singleton] at hu; subst hu; rfl
        have h1b : Hid (∀ u ∈ [Value.iface 83 (ptr b)], u.oneCell' = true) := Lib.hid fun u hu => by simp only [List.mem_singleton] at hu; subst hu; rfl
        have hbd' : Hid (k + 1 ≤ maxLen ∧ (k + 1) * 8 ≤ 140737488355328 ∧ (k + 1) * 16 ≤ 140737488355328) := Lib.hid ⟨by unfold maxLen; omega, by omega, by omega⟩
        have hs2' : Hid (w.heap.size ≤ w2.heap.size) := Lib.hid (by have := hr'.out.e.size; have := eN'.out.size; omega)
        go_wp2_with (first
          | (at_builtin; have _hap := hap1; obtain ⟨tj, hy1, hy2, hy3, hy4⟩ := info_parts infoR; go_must (refine wpList_append_lies _ rfl _ _ _ rfl w.heap.size 68 tj _ 1 16 Tryd.underlying63 hy1 hy2 hy3 hy4 rfl (by decide) u10 k (bs.map fun b => .iface 83 (ptr b)) rfl (ownsRow_ext (ownsRow_ext hr'.out.own10 (eN'.out.alloc _) (fun _ _ h => h)) ((ext_grown hap1.out.2.1).alloc _) (fun g hg hg' => hr'.out.ne g hg hg')) ⟨w3.heap.size, 0, none⟩ 1 1 [Value.iface 83 (ptr b)] rfl rfl (World.news_of_block (hnb'.out _ _)) h1b.out (by decide) hbd'.out.1 hbd'.out.2.2 (Nat.le_trans (Nat.le_trans hs2'.out (Nat.le_trans (by rw [World.size_alloc]; exact Nat.le_succ _) hap1.out.2.1.size)) (by rw [World.size_alloc]; exact Nat.le_succ _)) _ rfl ?_); intro g10 c10 w4 hown2 hgrow hat hltg; have hap2 := Lib.hid (And.intro hown2 (And.intro hgrow (And.intro hat hltg))); clear hown2 hgrow hat hltg)
          | (at_builtin; go_must (refine wpList_append_lies _ rfl _ _ _ rfl w.heap.size 83 tx _ 1 8 Tryd.underlying82 hx1 hx2 hx3 hx4 rfl (by decide) u11 k (bs.map ptr) rfl (ownsRow_ext hr'.out.own11 (eN'.out.alloc _) (fun _ _ h => h)) ⟨w2.heap.size, 0, none⟩ 1 1 [ptr b] rfl rfl (World.news_of_block (hnb'.out _ _)) h1a.out (by decide) hbd'.out.1 hbd'.out.2.1 (Nat.le_trans hs2'.out (by rw [World.size_alloc]; exact Nat.le_succ _)) _ rfl ?_); intro g11 c11 w3 hown2 hgrow hat hltg; have hap1 := Lib.hid (And.intro hown2 (And.intro hgrow (And.intro hat hltg))); clear hown2 hgrow hat hltg))
        exact ⟨⟨k + 1, bs ++ [b], _, rfl, hr'.out.step hq hz0'.out hzr1 eN'.out (by have h0 := hB'.out; rw [← hz4, ← hz2'] at h0; exact h0) hge hap1.out.2.1 hap1.out.1 hap1.out.2.2.1 hap1.out.2.2.2 hap2.out.2.1 hap2.out.1 hap2.out.2.2.1⟩, by simp [intOf]; omega⟩)
    · have hkn : k = logs.length := Nat.le_antisymm hr.hk (Nat.le_of_not_lt hq)
      subst hkn
      obtain ⟨gA, cA, rfl, hgA, hgA'⟩ := hr.own10.form (by omega)
      obtain ⟨gO, cO, rfl, hgO, hgO'⟩ := hr.own11.form (by omega)
      have hcA : ∀ (i b : Nat), bs[i]? = some b → wr.cell? ⟨gA, i, none⟩ = some (.iface 83 (ptr b)) := fun i b hb => by
        have hi : i < logs.length := by rw [← hr.len]; exact (List.getElem?_eq_some_iff.1 hb).1
        rw [hr.own10.cellAt i (by omega), List.getElem?_map, hb]; rfl
      have hcO : ∀ (i b : Nat), bs[i]? = some b → wr.cell? ⟨gO, i, none⟩ = some (ptr b) := fun i b hb => by
        have hi : i < logs.length := by rw [← hr.len]; exact (List.getElem?_eq_some_iff.1 hb).1
        rw [hr.own11.cellAt i (by omega), List.getElem?_map, hb]; rfl
      have hLm : ∀ i, 0 ≤ (lmOf (logs.getD i 0)).1 ∧ (lmOf (logs.getD i 0)).1 ≤ 3 ∧ ((lmOf (logs.getD i 0)).2 = 1 ∨ (lmOf (logs.getD i 0)).2 = 2) := fun i => lmOf_ok (by
        rw [List.getD_eq_getElem?_getD]
        cases hh : logs[i]? with
        | none => simp
        | some z => exact (hlr'.out z (List.mem_of_getElem? hh)).1)
      have hJ := ExJ.closed (c := 200 + 8 * room) (n := logs.length) (L := fun i => lmOf (logs.getD i 0)) hl2 hLm
      have hj0 := ExJ.start (room := room) logs hlr'.out
      have hRun := Run_any rExt _ hJ wr a _ bs _ V hr.sys hj0 gA cA hcA (hr.g10 gA rfl).1 hgA' po pc picks (fun hne => by obtain ⟨b, o, h1, h2, h3, h4⟩ := hp'.out hne; exact ⟨b, o, h1, fun hv => by have := hr.v _ hv; omega, Nat.lt_of_lt_of_le h3 hr.e.size, fun i z hz => (hr.e.cell h3 id (o + i)).trans (h4 i z hz)⟩) hpr'.out (by rw [hr.len]; omega) (by rw [hr.len]; omega) (by omega)
      rw [hr.len] at hRun
      have hRun' := Lib.hid hRun; have hr' := Lib.hid hr; have hcA' := Lib.hid hcA; have hcO' := Lib.hid hcO; have hJ' := Lib.hid hJ; have hLm' := Lib.hid hLm
      clear hRun hr hcA hcO hJ hj0 hLm
      go_wp2_with (go_at_call 21; go_must (refine hRun'.out.mono ?_); rintro e w5 ⟨⟨vR, rfl⟩, ⟨A5, ss5, hJ5, hS5⟩, hE5⟩; have hR5 := Lib.hid (And.intro hJ5 (And.intro hS5 hE5)); clear hJ5 hS5 hE5)
      go_loopw [14, 15, 16, 17] (fun v14 v15 v16 v17 W => ∃ (k : Nat) (lk ls wd : Int) (A : PA) (ss : List ExS) (V2 : Nat → Prop), v14 = i64 lk ∧ v15 = i64 ls ∧ v16 = Value.int .u64 wd ∧ v17 = i64 k ∧ E2 w a logs.length (200 + 8 * room) (fun i => lmOf (logs.getD i 0)) w1.heap.size gA gO w5 bs k lk ls wd A ss V2 W) (fun _ _ _ iv _ => logs.length - (intOf iv).toNat)
      case atStart =>
        exact ⟨0, 0, 0, 0, A5, ss5, grow V wr w5, rfl, rfl, rfl, rfl, ⟨Nat.zero_le _, hR5.out.1, hR5.out.2.1, (fun _ _ h => absurd h (Nat.not_lt_zero _)), .inl ⟨rfl, fun _ _ h => absurd h (Nat.not_lt_zero _)⟩, ⟨Int.le_refl _, Int.le_refl _, .inl rfl⟩, grow.ge hr'.out.v hr'.out.e.size, grow.no hr'.out.nb hr'.out.b8.lt, grow.no (hr'.out.g10 gA rfl).1 hgA', grow.no (hr'.out.g11 gO rfl).1 hgO', Ext.refl _ _, hr'.out.e.trans' hR5.out.2.2 (fun j hj => .inr (hr'.out.v j hj))⟩⟩
      case round =>
        obtain ⟨k, lk, ls, wd, A, ss, V2, rfl, rfl, rfl, rfl, h2⟩ := hrel
        have hgA5 : gA < w5.heap.size := Nat.lt_of_lt_of_le hgA' hR5.out.2.2.size
        have hgO5 : gO < w5.heap.size := Nat.lt_of_lt_of_le hgO' hR5.out.2.2.size
        have h85 : w1.heap.size < w5.heap.size := Nat.lt_of_lt_of_le hr'.out.b8.lt hR5.out.2.2.size
        have hb8 := (hr'.out.b8.ext hR5.out.2.2 hr'.out.nb).ext h2.e5 h2.nb
        obtain ⟨hlt8, hf8, hc8⟩ := hb8.open_
        simp only [CellsAt, Nat.reduceAdd] at hc8
        by_cases hq : k < logs.length
        · obtain ⟨b, hb⟩ : ∃ b, bs[k]? = some b := ⟨_, List.getElem?_eq_getElem (by rw [hr'.out.len]; exact hq)⟩
          obtain ⟨s, hs⟩ : ∃ s, ss[k]? = some s := ⟨_, List.getElem?_eq_getElem (by rw [h2.j.len]; exact hq)⟩
          have hcA2 := (h2.e5.cell hgA5 h2.nA k).trans ((hR5.out.2.2.cell hgA' (hr'.out.g10 gA rfl).1 k).trans (hcA'.out k b hb))
          have hcO2 := (h2.e5.cell hgO5 h2.nO k).trans ((hR5.out.2.2.cell hgO' (hr'.out.g11 gO rfl).1 k).trans (hcO'.out k b hb))
          have hz1 := hlc'.out k logs[k] (List.getElem?_eq_getElem hq)
          have hz2 := (h2.e.cell hlb id (lo + k)).trans hz1
          have hzr1 := hlr'.out _ (List.getElem_mem hq)
          have hlm : lmOf (logs.getD k 0) = lmOf logs[k] := by rw [List.getD_eq_getElem?_getD, List.getElem?_eq_getElem hq]; rfl
          generalize hz0 : logs[k] = z at hz2 hzr1 hlm
          have hAl := Alone_c rExt _ (hJ'.out.one hs) wr a A bs ss V2 h2.sys k b s hb hs (by have e := set_same hs; have h3 := h2.j; rw [← e] at h3; exact h3) 9 (by decide) (by decide)
          obtain ⟨q1, q2, q3, _⟩ := Rout.alone_J hJ'.out hs (fun _ s => ExS.left s) (fun A s' x _ _ hx => ExS.left_lt hx _) h2.j h2.sys.ok (m := 9) (ExS.left_le s)
          generalize hr9 : rExt.alone 9 A s = r9 at hAl q1 q2 q3
          obtain ⟨A2, s2, n2⟩ := r9
          simp only [q3, Option.isNone_none] at hAl
          clear hr9
          have hs2 := q1.act0 (set_new hs) q3
          obtain ⟨_, hlog2, hmk2, hst2⟩ := q1.loc k s2 (set_new hs)
          rw [hlm] at hlog2 hmk2
          have hRes := fun W (hB : Blk W b s2.vals 147) (h1 : s2.lk ≠ 0) => Ext_Result_c W b s2 hB hs2 h1
          have hBs : ∀ W V, Sys rExt W a A2 bs (ss.set k s2) V → Blk W b s2.vals 147 := fun W V hS => by
            obtain ⟨F, hr, _⟩ := hS.rep hb (set_new hs); exact hr.1
          have hUsed := fun W FA (h : ArRep W a A2 FA) => Used_c W a A2 FA h
          have hU20 := q1.used20 q2
          have hkN : (k : Int) < N := by omega
          have hk0 : (0 : Int) ≤ (k : Int) := by omega
          have hkL : (k : Int) < (logs.length : Int) := by omega
          generalize hsu : A2.used = su at hUsed hU20
          have hAl' := Lib.hid hAl; have q1' := Lib.hid q1; have q2' := Lib.hid q2; have hRes' := Lib.hid hRes; have hBs' := Lib.hid hBs; have hUsed' := Lib.hid hUsed; have h2' := Lib.hid h2; have hs' := Lib.hid hs; have hs2' := Lib.hid hs2; have hmk' := Lib.hid hmk2; have hlog' := Lib.hid hlog2; have hsu' := Lib.hid hsu; have hz0' := Lib.hid hz0; have hlm' := Lib.hid hlm
          have hst3 : (s2.lk = 1 ∨ s2.lk = 3) ∨ (s2.lk = 2 ∧ s2.lb = s2.block ∧ s2.lw = s2.block * 8 + s2.mark) := by
            rcases hst2 with ⟨e, _⟩ | ⟨e, _⟩ | ⟨e, _⟩ | ⟨e, _⟩ | ⟨_, h1 | h1 | h1⟩
            · exact absurd (hs2.symm.trans e) (by decide)
            · exact absurd (hs2.symm.trans e) (by decide)
            · exact absurd (hs2.symm.trans e) (by decide)
            · exact absurd (hs2.symm.trans e) (by decide)
            · exact .inl (.inl h1)
            · exact .inr h1
            · exact .inl (.inr h1)
          have hls0 : 0 ≤ ls := h2.ls.1
          have hlsk : ls ≤ k := h2.ls.2.1
          have hlk0 : 0 ≤ lk ∧ lk ≤ 1 := by rcases h2.lk with ⟨e, _⟩ | ⟨e, _⟩ <;> omega
          clear hAl q1 q2 q3 hRes hBs hUsed h2 hs hs2 hlog2 hmk2 hsu hz0 hlm hst2 hb hz1
          rcases hst3 with hl3 | ⟨hl3, hlb3, hlw3⟩
          · have hne : s2.lk ≠ 0 := by omega
            have hl2 : (s2.lk == 2) = false := by simp; omega
            obtain ⟨lk2, hlk2⟩ : ∃ x, s2.lk = x := ⟨_, rfl⟩
            have hRes2 : Hid (∀ W, Blk W b s2.vals 147 → Calls Tryd.prog 34 #[ptr b] W (RetN (.tuple #[.agg #[i64 lk2, Value.int .u64 s2.lb, Value.int .u64 s2.lw], .bool true]) W)) := Lib.hid fun W hB => by rw [← hlk2]; exact hRes'.out W hB hne
            go_wp2_with (first
              | (go_at_call 16; go_must (refine hAl'.out.mono ?_); rintro e w7 ⟨rfl, hS7, hE7⟩; have hcO7 := (hE7.cell (Nat.lt_of_lt_of_le hgO5 h2'.out.e5.size) h2'.out.nO k).trans hcO2; have hz7 := (hE7.cell (Nat.lt_of_lt_of_le hlb h2'.out.e.size) (fun hv => by have := h2'.out.v _ hv; omega) (lo + k)).trans hz2; have hS7' := Lib.hid hS7; have hE7' := Lib.hid hE7; clear hS7 hE7)
              | (go_at_call 34; go_must (refine use_n (hRes2.out _ (hBs'.out _ _ hS7'.out)) (fun w8 hE8 => ?_)); have hE8' := Lib.hid hE8; clear hE8))
            · rename_i h3
              have h3' : lk2 = 3 := by simpa using h3
              exact ⟨⟨k + 1, lk, ls + 1, wd, A2, ss.set k s2, grow V2 wr w7, rfl, rfl, rfl, rfl, h2'.out.step hq hs'.out hS7'.out hE7'.out q1'.out hs2'.out (hE8'.out.alloc _) h85 hgA5 hgO5 (Nat.le_trans hr'.out.e.size hR5.out.2.2.size) (.inr (.inl ⟨hlk2.trans h3', rfl, rfl, rfl⟩))⟩, by simp [intOf]; omega⟩
            · rename_i h3
              have h3' : lk2 ≠ 3 := by simpa using h3
              exact ⟨⟨k + 1, lk, ls, wd, A2, ss.set k s2, grow V2 wr w7, rfl, rfl, rfl, rfl, h2'.out.step hq hs'.out hS7'.out hE7'.out q1'.out hs2'.out (hE8'.out.alloc _) h85 hgA5 hgO5 (Nat.le_trans hr'.out.e.size hR5.out.2.2.size) (.inr (.inr ⟨by omega, rfl, rfl, rfl⟩))⟩, by simp [intOf]; omega⟩
          · have how : ExS.owns s2 := .inr (.inr (.inr ⟨hs2'.out, hl3⟩))
            obtain ⟨hgb, hb3⟩ := q1'.out.own k s2 (set_new hs'.out) how
            have hwds : ExS.words s2 = (List.replicate (tsize s2.log).toNat (0 : Int)).set 0 s2.log := by
              have := hs2'.out
              unfold ExS.words; rw [if_neg (by rw [this]; decide)]
            rw [hwds, hlog'.out] at hgb
            obtain ⟨z4, hz4⟩ : ∃ z4, z.tmod 4 = z4 := ⟨_, rfl⟩
            have hz4r : 0 ≤ z4 ∧ z4 < 4 := by rw [← hz4]; exact ⟨Int.tmod_nonneg 4 hzr1.1, Int.tmod_lt_of_pos z (by decide)⟩
            have hlmz : (lmOf z).1 = z4 := hz4
            have hts := tsize_lo (l := z4) (by omega) (by omega)
            have hts2 := tsize_hi (l := z4) (by omega) (by omega)
            rw [hlmz] at hgb
            have hLd := fun W FA (h : ArRep W a A2 FA) => Load_ok W a A2 FA h s2.block 0 _ hgb (by decide) (by simp; omega)
            have hSz := fun W FA (h : ArRep W a A2 FA) => Size_c W a A2 FA h s2.block
            rw [hgb] at hSz
            have e0 : ((List.replicate (tsize z4).toNat (0 : Int)).set 0 z4).getD (0 : Int).toNat 0 = z4 := by
              rw [List.getD_eq_getElem?_getD, show (0 : Int).toNat = 0 from rfl, List.getElem?_set_self (by simp; omega)]; rfl
            have e1 : ((((some ((List.replicate (tsize z4).toNat (0 : Int)).set 0 z4)).getD []).length : Nat) : Int) = tsize z4 := by simp; omega
            rw [e0] at hLd
            simp only [e1] at hSz
            have hmk : s2.mark = 1 ∨ s2.mark = 2 := by rw [hmk'.out]; exact (lmOf_ok hzr1.1).2.2
            have hbl : s2.block ≤ A2.last := (q2'.out.get_lt (by rw [hgb]; rfl)).2
            have hlast : A2.last < 1000000000000 := q2'.out.l1
            have hTB := fun W => tag_Block_c s2.lw (by omega) (by omega) W
            rw [show s2.lw / 8 = s2.block by omega] at hTB
            have hTS := fun W => table_Size_c W z4
            generalize hTz : tsize z4 = tz at hSz hTS hts hts2
            have hsb : 0 ≤ s2.block := by omega
            have hne : s2.lk ≠ 0 := by omega
            have hRes2 : Hid (∀ W, Blk W b s2.vals 147 → Calls Tryd.prog 34 #[ptr b] W (RetN (.tuple #[.agg #[i64 2, Value.int .u64 s2.block, Value.int .u64 s2.lw], .bool true]) W)) := Lib.hid fun W hB => by rw [← hl3, ← hlb3]; exact hRes'.out W hB hne
            obtain ⟨bb, hbb⟩ : ∃ x, s2.block = x := ⟨_, rfl⟩
            obtain ⟨lw, hlw⟩ : ∃ x, s2.lw = x := ⟨_, rfl⟩
            rw [hbb] at hLd hSz hTB hb3 hsb
            rw [hlw] at hTB
            rw [hbb, hlw] at hRes2
            have hLd' := Lib.hid hLd; have hSz' := Lib.hid hSz; have hTB' := Lib.hid hTB; have hTS' := Lib.hid hTS; have hl3' := Lib.hid hl3
            have d1 : decide (su < 20) = false := by simp; omega
            have d2 : (bb != bb) = false := by simp
            have d3 : (z4 != z4) = false := by simp
            have d4 : (tz != tz) = false := by simp
            clear hgb hwds how hlb3 hlw3 hlmz hLd hSz hTB hTS e0 e1 hbb hmk hbl hlast hTz hl3 hne
            go_wp2_with (first
              | (go_at_call 16; go_must (refine hAl'.out.mono ?_); rintro e w7 ⟨rfl, hS7, hE7⟩; have hcO7 := (hE7.cell (Nat.lt_of_lt_of_le hgO5 h2'.out.e5.size) h2'.out.nO k).trans hcO2; have hz7 := (hE7.cell (Nat.lt_of_lt_of_le hlb h2'.out.e.size) (fun hv => by have := h2'.out.v _ hv; omega) (lo + k)).trans hz2; have hS7' := Lib.hid hS7; have hE7' := Lib.hid hE7; clear hS7 hE7)
              | (go_at_call 34; go_must (refine use_n (hRes2.out _ (hBs'.out _ _ hS7'.out)) (fun w8 hE8 => ?_)); have hz8 := (hE8.cell (Nat.lt_of_lt_of_le (Nat.lt_of_lt_of_le hlb h2'.out.e.size) hE7'.out.size) id (lo + k)).trans hz7; obtain ⟨FA8, hA8, _, _⟩ := ((hS7'.out.keep0 hE8).keep0 ((Ext.refl (fun _ => False) w8).alloc (.cells #[i64 2, Value.int .u64 bb, Value.int .u64 lw] 86))).arena; have hA8' := Lib.hid hA8; have hE8' := Lib.hid hE8; clear hE8 hA8)
              | (go_at_call 19; go_must (refine use_s (hLd'.out _ FA8 hA8'.out) ?_)))
            have hwz : IntKind.i64.wrap z = z := wrapi z (by omega) (by omega)
            have hwu : IntKind.u64.wrap z = z := wrapu z (by omega) (by omega)
            have hz9 := cell_old hz8 (.cells #[i64 2, Value.int .u64 bb, Value.int .u64 lw] 86)
            go_quiet ((first
              | (go_at_call 32; exact Calls.quiet_of_same (RetS.same (hUsed'.out _ FA8 (hA8'.out.ext0 ((Ext.refl _ _).drewN _)))))
              | (go_at_call 35; exact Calls.quiet_of_same (RetS.same (hTB'.out _)))
              | (go_at_call 30; exact Calls.quiet_of_same (RetS.same (hSz'.out _ FA8 (hA8'.out.ext0 ((Ext.refl _ _).drewN _)))))
              | (go_at_call 36; exact Calls.quiet_of_same (RetS.same (hTS'.out _)))))
            go_wp2
            exact ⟨⟨k + 1, lk + 1, ls, lw, A2, ss.set k s2, grow V2 wr w7, rfl, rfl, rfl, rfl, h2'.out.step hq hs'.out hS7'.out hE7'.out q1'.out hs2'.out ((hE8'.out.alloc _).drewN _) h85 hgA5 hgO5 (Nat.le_trans hr'.out.e.size hR5.out.2.2.size) (.inl ⟨hl3'.out, rfl, rfl, hlw.symm⟩)⟩, by simp [intOf]; omega⟩
        · have hkn : k = logs.length := Nat.le_antisymm h2.hk (Nat.le_of_not_lt hq)
          obtain ⟨FA, hA, _, _⟩ := h2.sys.arena
          have hok := h2.sys.ok
          obtain ⟨t, ht, ht16⟩ := h2.j.tab
          have hLd := Load_ok wr a A FA hA 2 1 t ht (by decide) (by omega)
          rw [← PA.rd_eq ht] at hLd
          have hUs := Used_c wr a A FA hA
          have hFl := Faults_c wr a A FA hA
          rw [h2.j.faults] at hFl
          have hd : ∀ (i : Nat) (s : ExS), ss[i]? = some s → s.state = 0 := fun i s hs => h2.done i s (by rw [hkn, ← h2.j.len]; exact (List.getElem?_eq_some_iff.1 hs).1) hs
          have hAw := awakeE_c wr
          have hrd := hok.rd 2 1
          have hkN : ¬ (k : Int) < N := by omega
          have hkL : ¬ (k : Int) < (logs.length : Int) := by omega
          have he' := Lib.hid h2.e
          rcases h2.lk with ⟨rfl, hno⟩ | ⟨rfl, j, u, hj, hu, hu2, hwd⟩
          · obtain ⟨p1, p2, p3⟩ := h2.j.none_linked hok hd fun i s hs => hno i s (by rw [hkn, ← h2.j.len]; exact (List.getElem?_eq_some_iff.1 hs).1) hs
            have hls : ls = 0 := by
              rcases h2.ls.2.2 with e | ⟨i, s, _, hs, e⟩
              · exact e
              · exact absurd e (p2 i s hs)
            rw [p1] at hLd; rw [p3] at hUs
            have hLd' := Lib.hid hLd; have hUs' := Lib.hid hUs; have hFl' := Lib.hid hFl; have hAw' := Lib.hid hAw
            clear hLd hUs hFl hAw p1 p2 p3 hno h2 hd hrd hok hA ht hkn
            subst hls
            go_wp2_with (first
              | (go_at_call 19; go_must (refine use_s hLd'.out ?_))
              | (go_at_call 32; go_must (refine use_s hUs'.out ?_))
              | (go_at_call 24; go_must (refine use_s hFl'.out ?_))
              | (go_at_call 31; go_must (refine use_n hAw'.out (fun w9 hE9 => ?_)); have hE9' := Lib.hid hE9; clear hE9))
            go_ret
            exact ⟨rfl, he'.out.trans hE9'.out⟩
          · obtain ⟨p1, p2, p3⟩ := h2.j.one_linked (fun i => (hLm'.out i).2.2) hok hd hu hu2
            rw [← hwd] at p1 p2
            rw [p1] at hLd hrd
            have hTB := tag_Block_c wd hrd.1 hrd.2 wr
            rw [p2] at hTB
            have hSz := Size_c wr a A FA hA u.block
            have hu1 := hok.u1; have hc1 := hok.c1
            rw [p3] at hUs hu1
            obtain ⟨sz, hsz⟩ : ∃ sz : Int, (((A.get u.block).getD []).length : Int) = sz := ⟨_, rfl⟩
            rw [hsz] at hUs hSz hu1
            have hsz0 : 0 ≤ sz := by omega
            have hsz1 : sz ≤ 65536 := by omega
            generalize u.block = bb at hTB hSz
            have hLd' := Lib.hid hLd; have hUs' := Lib.hid hUs; have hFl' := Lib.hid hFl; have hAw' := Lib.hid hAw; have hTB' := Lib.hid hTB; have hSz' := Lib.hid hSz
            clear hLd hUs hFl hAw p1 p2 p3 h2 hd hrd hok hA ht hkn hTB hSz hu hu2 hwd hsz hu1 hc1
            go_wp2_with (first
              | (go_at_call 19; go_must (refine use_s hLd'.out ?_))
              | (go_at_call 32; go_must (refine use_s hUs'.out ?_))
              | (go_at_call 24; go_must (refine use_s hFl'.out ?_))
              | (go_at_call 35; go_must (refine use_s hTB'.out ?_))
              | (go_at_call 30; go_must (refine use_s hSz'.out ?_))
              | (go_at_call 31; go_must (refine use_n hAw'.out (fun w9 hE9 => ?_)); have hE9' := Lib.hid hE9; clear hE9))
            go_ret
            exact ⟨rfl, he'.out.trans hE9'.out⟩
end Go.Proofs.YtlbphffnbhoghaaDoor
