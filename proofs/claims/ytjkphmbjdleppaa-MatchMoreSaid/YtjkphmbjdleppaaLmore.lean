/- The statement MatchMore, as a contract. No condition. -/
import Derived.Test.YtjkphmbjdleppaaMs
namespace Go.Proofs.Ytjkphmbjdleppaa
open Go Go.RowKit VC
set_option linter.unusedSimpArgs false
set_option linter.unusedVariables false

theorem okFs_congr {l l' : List Atm} (h : ∀ a, a ∈ l ↔ a ∈ l') (hl : l.length = l'.length) : okFs l = okFs l' := by
  unfold okFs
  rw [hl]
  congr 1
  rw [Bool.eq_iff_iff, List.all_eq_true, List.all_eq_true]
  exact ⟨fun h1 a ha => h1 a ((h a).2 ha), fun h1 a ha => h1 a ((h a).1 ha)⟩
theorem resO_congr {h : List Int} {b l l' : List Atm} (hm : ∀ a, a ∈ l ↔ a ∈ l') (hl : l.length = l'.length) : resO h b l = resO h b l' := by
  unfold resO runF
  rw [okFs_congr hm hl, srtF_congr hm]
theorem resO_cases (h : List Int) (b l : List Atm) : (resO h b l).1 = 0 ∨ (resO h b l).1 = 2 ∨ (resO h b l).1 = 3 := by
  unfold resO
  split
  · split
    · exact .inl rfl
    · exact .inr (.inr rfl)
  · exact .inr (.inl rfl)
theorem resO_ok {h : List Int} {b l : List Atm} (h0 : (resO h b l).1 = 0) : okQ h b = true ∧ okFs l = true ∧ (resO h b l).2 = rowsOf h (allM (srtF l) b) := by
  unfold resO at h0 ⊢
  split at h0
  · rename_i hq
    rw [Bool.and_eq_true] at hq
    refine ⟨hq.1, hq.2, ?_⟩
    rw [if_pos (by rw [hq.1, hq.2]; rfl)]
    split at h0
    · rename_i ms hr
      rw [(runF_some.1 hr).1]
    · cases h0
  · cases h0
theorem moreEq_c {w : World} {z t : Value} {a : Addr} {ys xs : List Int} (hz : SlI w z ys) (hc : w.cell? a = some t) (ht : SlI w t xs) : Calls Try.prog 25 #[z, .pointer (some a)] w (Ret w (.bool (decide (xs = ys)))) := by
  refine f25_calls _ _ ?_
  refine ⟨t, hc, (equal_c ht hz).mono ?_⟩
  rintro e w' ⟨rfl, g⟩
  exact ⟨_, rfl, rfl, g⟩
/-- The facts with one ahead, in memory of the call's own. -/
def MoreJ (w0 : World) (r : Int) (xs : List Int) (l : List Atm) (v : Value) (w : World) : Prop := OwnX (fun _ => False) 2 repA w w0.heap.size 46 v ((r, xs) :: l) ∧ Grow w0 w
theorem lit_own {T : Nat → Prop} {w w' : World} {B : Nat} {r : Int} {u : Value} {xs : List Int} (hw : w' = w.alloc (.cells #[.int .i64 r, u] 46)) (hB : B ≤ w.heap.size) (h : ElX T 2 repA (.slice (some ⟨w.heap.size, 0, none⟩) 1 1) w' ([.int .i64 r, u], (r, xs))) : OwnX T 2 repA w' B 46 (.slice (some ⟨w.heap.size, 0, none⟩) 1 1) [(r, xs)] := by
  have hl := Own.lit (B := B) (n := 1) (sz := 2) hw hB (by omega) (by simp)
  exact ⟨[([.int .i64 r, u], (r, xs))], rfl, fun p hp => by
    obtain rfl : p = ([.int .i64 r, u], (r, xs)) := by simpa using hp
    exact h, by simpa using hl⟩
theorem few_el {w w' : World} {B : Nat} {r : Int} {u : Value} {xs : List Int} {M : Nat} {n c : Nat} (ho : OwnI w B u xs) (hM : w.heap.size ≤ M) (g : Grow w w') : ElX (fun _ => False) 2 repA (.slice (some ⟨M, 0, none⟩) n c) w' ([.int .i64 r, u], (r, xs)) := by
  refine ⟨rfl, fun y hy => ?_, fun w2 hf => ⟨u, rfl, Own.slI (Own.fr (Own.grow ho g) hf fun k hk e => ?_)⟩⟩
  · simp at hy
    rcases hy with rfl | rfl
    · rfl
    · exact (Own.one ho).2
  · rcases e with e | e
    · exact e
    · have h1 : k = M := Option.some.inj e
      have := (Own.lt ho hk).2
      omega
theorem matchMore_c {w : World} {hv bv lv fu : Value} {h : List Int} {b l : List Atm} {r : Int} {fx : List Int} (hh : SlI w hv h) (hb : SlA w bv b) (hl : SlA w lv l) (hfx : SlI w fu fx) : Calls Try.prog 5 #[.agg #[hv, bv], lv, .agg #[.int .i64 r, fu]] w (Ret w (.bool true)) := by
  refine f5_calls _ _ _ ?_
  refine ⟨_, rfl, fun w1 hw1 => ⟨_, rfl, fun w3 hw3 => ?_⟩⟩
  have g1 := alloc_grow hw1
  have g3 := alloc_grow hw3
  have k0 := g3.cell (boxc hw1 0 hv rfl)
  have k1 := g3.cell (boxc hw1 1 bv rfl)
  have j0 := boxc hw3 0 (Value.int .i64 r) rfl
  have j1 := boxc hw3 1 fu rfl
  have g03 := g1.trans g3
  refine ⟨[_, _], rfl, two k0 k1, (ofS_c (hh.grow g03) (hb.gr g03)).mono ?_⟩
  rintro e w6 ⟨ha, ba, rfl, oha, oba, g6⟩
  refine ⟨_, rfl, (factsS_c (hl.gr (g03.trans g6))).mono ?_⟩
  rintro e w9 ⟨la, rfl, ola, g9⟩
  refine ⟨_, rfl, (results_c (oha.grow g9) (oba.gr g9) ola).mono ?_⟩
  rintro e w12 ⟨va, rfl, sva, g12⟩
  have g312 := (g6.trans g9).trans g12
  refine ⟨_, _, rfl, MoreJ w12 r (fx.take 9) (trF l), fun m => ?_, ?_⟩
  · have gm : Grow w12 (dr w12 m) := (Grow.refl w12).dr m
    have gE : ∀ {E}, Grow (dr w12 m) E → Grow w3 E := fun g => g312.trans (gm.trans g)
    have c0 : ∀ {E}, Grow (dr w12 m) E → E.cell? (Addr.add ⟨w1.heap.size, 0, none⟩ 0) = some (Value.int .i64 r) := fun g => (gE g).cell j0
    have c1 : ∀ {E}, Grow (dr w12 m) E → E.cell? (Addr.add ⟨w1.heap.size, 0, none⟩ 1) = some fu := fun g => (gE g).cell j1
    have callFew : ∀ {Q : Ending → World → Prop}, (∀ v' E, OwnI E (dr w12 m).heap.size v' (fx.take 9) → Grow (dr w12 m) E → Q (.returned v') E) → Calls Try.prog 22 #[fu] (dr w12 m) Q := fun hq => (few_c (hfx.grow (g03.trans (gE (Grow.refl _))))).mono (by
      rintro e E ⟨v', rfl, ho, g⟩
      exact hq v' E ho g)
    have callFacts : ∀ {E : World} {Q : Ending → World → Prop}, Grow (dr w12 m) E → (∀ v' E', OwnF E' E.heap.size v' (trF l) → Grow E E' → Q (.returned v') E') → Calls Try.prog 15 #[lv] E Q := fun g hq => (facts_c (hl.gr (g03.trans (gE g)))).mono (by
      rintro e E ⟨v', rfl, ho, g⟩
      exact hq v' E ho g)
    have tl : (trF l).length ≤ 26 := by unfold trF; simp; omega
    -- the literal first, then the facts
    have finA : ∀ {E E1 wl wf : World} {v' fv : Value}, OwnI E (dr w12 m).heap.size v' (fx.take 9) → Grow (dr w12 m) E → wl = E.alloc (.cells #[.int .i64 r, v'] 46) → OwnF wf wl.heap.size fv (trF l) → Grow wl wf →
        PApp Try.prog 26 26 (.slice (some ⟨E.heap.size, 0, none⟩) 1 1) fv wf fun v w => MoreJ w12 r (fx.take 9) (trF l) v w := fun {E E1 wl wf v' fv} ho g hwl hof gf => by
      have gl := alloc_grow hwl
      have sl := alloc_size hwl
      obtain ⟨ps, hps, hel, hown⟩ := hof.ex
      have hpl : ps.length = (trF l).length := by rw [← hps, List.length_map]
      have o1 : OwnX (fun _ => False) 2 repA wf w12.heap.size 46 (.slice (some ⟨E.heap.size, 0, none⟩) 1 1) [(r, fx.take 9)] := (lit_own hwl (gm.trans g).size (few_el ho (Nat.le_refl _) gl)).grow gf
      refine pappX (qs := ps) el_fact (by omega) o1 (by have := hown.slC; rwa [← hpl] at this) (fun q hq => ⟨(hel q hq).len, (hel q hq).one, fun w' hf => (hel q hq).rep w' (hf.mono fun b _ e => ?_)⟩) ((gm.trans g).trans (gl.trans gf)).size (by simp; omega) (by omega) ?_
      · rcases e with e | e
        · exact absurd e id
        · have h1 : b = E.heap.size := Option.some.inj e
          refine .inl ?_
          show b < wl.heap.size
          omega
      · intro v2 w2 ho2 hf2 _ _
        rw [hps] at ho2
        refine ⟨ho2, ((gm.trans g).trans (gl.trans gf)).fr hf2 fun i hi e => ?_⟩
        have h1 : i = E.heap.size := Option.some.inj e
        have := (gm.trans g).size
        omega
    -- the facts first
    have finB : ∀ {E wf wl : World} {v' fv : Value}, OwnI E (dr w12 m).heap.size v' (fx.take 9) → Grow (dr w12 m) E → OwnF wf E.heap.size fv (trF l) → Grow E wf → wl = wf.alloc (.cells #[.int .i64 r, v'] 46) →
        PApp Try.prog 26 26 (.slice (some ⟨wf.heap.size, 0, none⟩) 1 1) fv wl fun v w => MoreJ w12 r (fx.take 9) (trF l) v w := fun {E wf wl v' fv} ho g hof gf hwl => by
      have gl := alloc_grow hwl
      obtain ⟨ps, hps, hel, hown⟩ := hof.ex
      have hpl : ps.length = (trF l).length := by rw [← hps, List.length_map]
      have g12f := (gm.trans g).trans gf
      have o1 : OwnX (fun _ => False) 2 repA wl w12.heap.size 46 (.slice (some ⟨wf.heap.size, 0, none⟩) 1 1) [(r, fx.take 9)] := lit_own hwl g12f.size (few_el ho gf.size (gf.trans gl))
      refine pappX (qs := ps) el_fact (by omega) o1 (by have := SlC.grow hown.slC gl; rwa [← hpl] at this) (fun q hq => ⟨(hel q hq).len, (hel q hq).one, fun w' hf => repA_mono _ _ _ _ (gl.fr hf fun b hb e => ?_) ((hel q hq).rep wf (Fr.refl _ _))⟩) (g12f.trans gl).size (by simp; omega) (by omega) ?_
      · rcases e with e | e
        · exact e
        · have h1 : b = wf.heap.size := Option.some.inj e
          omega
      · intro v2 w2 ho2 hf2 _ _
        rw [hps] at ho2
        refine ⟨ho2, (g12f.trans gl).fr hf2 fun i hi e => ?_⟩
        have h1 : i = wf.heap.size := Option.some.inj e
        have := g12f.size
        omega
    have r0 : Grow (dr w12 m) (dr w12 m) := Grow.refl _
    repeat' first
      | exact Own.one ‹_›
      | refine And.intro ?_ ?_
      | refine ⟨_, c0 r0, ?_⟩
      | refine ⟨_, c1 r0, ?_⟩
      | (refine callFew ?_; intro v' E ho g; refine ⟨v', rfl, ?_⟩)
      | refine ⟨_, c0 ‹Grow (dr w12 m) _›, ?_⟩
      | (refine bs1 el_fact (by omega) (by omega) (cs := #[.int .i64 r, _]) rfl _ fun wl hwl => ?_
         first
           | exact finB ‹OwnI _ _ _ _› ‹Grow (dr w12 m) _› ‹OwnF _ _ _ _› ‹Grow _ _› hwl
           | (refine callFacts (Grow.trans ‹Grow (dr w12 m) _› (alloc_grow hwl)) ?_
              intro fv wf hof gf
              exact ⟨fv, rfl, finA (E1 := wl) ‹OwnI _ _ _ _› ‹Grow (dr w12 m) _› hwl hof gf⟩))
      | (refine callFacts ‹Grow (dr w12 m) _› ?_; intro fv wf hof gf; refine ⟨fv, rfl, ?_⟩)
      | refine ⟨_, c0 (Grow.trans ‹Grow (dr w12 m) _› ‹Grow _ _›), ?_⟩
  · intro _ more w84 ⟨hmore, g84⟩
    have g384 := g312.trans g84
    refine ⟨[_, _], rfl, two (g384.cell k0) (g384.cell k1), (ofS_c (hh.grow (g03.trans g384)) (hb.gr (g03.trans g384))).mono ?_⟩
    rintro e w86 ⟨hb2, bb2, rfl, ohb, obb, g86⟩
    refine ⟨_, rfl, (results_o ohb obb (SlA.gr (OwnX.slX hmore) g86)).mono ?_⟩
    rintro e w89 ⟨vb, rfl, svb, g89⟩
    have hmore89 := (hmore.grow g86).grow g89
    refine ⟨_, _, rfl, (reverseF_c hmore89).mono ?_⟩
    rintro e w93 ⟨rfl, hrev, hf93⟩
    have hmlt : ∀ k, more.ownBlock = some k → w12.heap.size ≤ k ∧ k < w84.heap.size := fun k hk => hmore.lt hk
    have g12_93 : Grow w12 w93 := ((g84.trans g86).trans g89).fr hf93 fun i hi e => by have := (hmlt i e.symm).1; omega
    have g393 := g312.trans g12_93
    have svb93 : SlL w93 vb _ := (OwnX.fr svb hf93 (fun k e => by have := (hmlt k e.symm).2; have := g86.size; show k < w86.heap.size; omega) fun k hk e => by
      have h1 := (svb.lt hk).1
      have := (hmlt k e.symm).2
      have := g86.size
      omega).slX
    refine ⟨rfl, [_, _], rfl, two (g393.cell k0) (g393.cell k1), (ofS_c (hh.grow (g03.trans g393)) (hb.gr (g03.trans g393))).mono ?_⟩
    rintro e w96 ⟨hc2, bc2, rfl, ohc, obc, g96⟩
    refine ⟨_, rfl, (results_c ohc obc (SlA.gr (OwnX.slX hrev) g96)).mono ?_⟩
    rintro e w99 ⟨vc, rfl, svc, g99⟩
    obtain ⟨M, hM⟩ : ∃ M, M = (r, fx.take 9) :: trF l := ⟨_, rfl⟩
    rw [← hM] at svb93 svc
    rw [← hM]
    have hrv := resO_congr (h := h.take 9) (b := trB b) (l := M) (l' := M.reverse) (fun a => List.mem_reverse.symm) (by simp)
    have gA : Grow w12 w99 := (g12_93.trans g96).trans g99
    have gAll : Grow w w99 := (g03.trans g312).trans gA
    have aw : ∀ {E : World}, Grow w E → Calls Try.prog 20 #[] E fun e w' => ∃ t : Bool, e = .returned (.bool t) ∧ Ret w (.bool true) (.returned (.bool t)) w' := fun g => awake_c.mono (by
      rintro e w' ⟨rfl, g'⟩
      exact ⟨_, rfl, rfl, g.trans g'⟩)
    refine ⟨_, _, rfl, condP_i (fun h9 => absurd (by rw [hrv]) (by simpa using h9 : ¬ (resO (h.take 9) (trB b) M).1 = (resO (h.take 9) (trB b) M.reverse).1)) fun _ => ?_⟩
    refine (rows_c (svb93.gr (g96.trans g99)) svc).mono ?_
    rintro e w103 ⟨rfl, g103⟩
    refine ⟨_, rfl, cF (by rw [hrv]; simp) ?_⟩
    have g0103 := gAll.trans g103
    refine condP_i (fun h1 => cT h1 (aw g0103)) fun h1 => ?_
    have h1 : (resO (h.take 9) (trB b) (trF l)).1 = 0 := by simpa using h1
    rcases resO_cases (h.take 9) (trB b) M with h2 | h2 | h2
    · refine cF (by rw [h2]; simp) ?_
      obtain ⟨q1, f1, e1⟩ := resO_ok h1
      obtain ⟨q2, f2, e2⟩ := resO_ok h2
      have hsl := SlX.len_le sva
      refine SlX.ln (sva.gr (gA.trans g103)) ⟨fun t w' => ∃ k : Nat, t = k ∧ k ≤ (resO (h.take 9) (trB b) (trF l)).2.length ∧ Grow w103 w', fun t _ => (resO (h.take 9) (trB b) (trF l)).2.length - t.toNat, ⟨0, rfl, by omega, Grow.refl _⟩, ?_⟩
      rintro - t w131 ⟨k, rfl, hk, g131⟩
      refine condD (fun hlt => ?_) fun hge => aw (g0103.trans g131)
      have hkl : k < (resO (h.take 9) (trB b) (trF l)).2.length := by omega
      refine SlL.rd1 (sva.gr ((gA.trans g103).trans g131)) rfl hkl fun u hu w136 hw136 => ?_
      have g136 := alloc_grow hw136
      have hbox := Box.new hw136
      refine ⟨SlI.one hu, ⟨_, hbox.cell⟩, hbox.free, fun w137 hw137 => ?_⟩
      have g137 : Grow w131 w137 := g136.fr (set_fr hw137) fun i hi e => by
        have e : i = w131.heap.size := e
        omega
      have hbox2 := hbox.set hw137
      have sub : ∀ y ∈ (resO (h.take 9) (trB b) (trF l)).2, y ∈ (resO (h.take 9) (trB b) M).2 := by
        rw [e1, e2]
        intro y hy
        rw [hM] at f2 ⊢
        exact Go.Proofs.Ytjkphmbjdleppaa.more (okF_pos f2) (okB_term q2) (fun a ha => List.mem_cons_of_mem _ ha) hy
      have hin := sub _ (List.getElem_mem hkl)
      refine (containsL_c (p := fun z => decide ((resO (h.take 9) (trB b) (trF l)).2[k] = z)) (svb93.gr ((((g96.trans g99).trans g103).trans g131).trans g137)) ⟨_, #[], #[_], rfl, by kernel_rfl, fun x _ w' u' g hu' => ?_⟩).mono ?_
      · rw [app1]
        exact moreEq_c hu' (g.cell hbox2.cell) ((hu.grow g137).grow g)
      · rintro e w138 ⟨rfl, g138⟩
        have hany : (resO (h.take 9) (trB b) M).2.any (fun z => decide ((resO (h.take 9) (trB b) (trF l)).2[k] = z)) = true := List.any_eq_true.2 ⟨_, hin, by simp⟩
        refine ⟨_, rfl, cF (by rw [hany]; rfl) ⟨by unfold inR; omega, ⟨k + 1, by omega, by omega, (g131.trans g137).trans g138⟩, by dsimp only; omega⟩⟩
    · refine cT (by rw [h2]; rfl) (cF (by rw [h1]; rfl) (cT (by rw [h2]; rfl) (aw g0103)))
    · refine cT (by rw [h2]; rfl) (cF (by rw [h1]; rfl) (cF (by rw [h2]; rfl) (cT (by rw [h2]; rfl) (aw g0103))))
end Go.Proofs.Ytjkphmbjdleppaa
