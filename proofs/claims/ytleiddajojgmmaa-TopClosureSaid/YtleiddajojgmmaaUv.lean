/- Contracts: model, list, Model of rules without variables. No condition. -/
import Derived.Test.YtleiddajojgmmaaUt
import Derived.Test.YtleiddajojgmmaaMv
namespace Go.Proofs.Ytleiddajojgmmaa
open Go Go.RowKit VC Go.Sort Go.Shelf
set_option linter.unusedSimpArgs false
set_option linter.unusedVariables false

/-! ## list: the order of facts -/
theorem listLt_c {w : World} {r s : Int} {u v : Value} {xs ys : List Int} (hx : SlI w u xs) (hy : SlI w v ys) : Calls Try.prog 73 #[.agg #[.int .i64 r, u], .agg #[.int .i64 s, v]] w (RetD w (.int .i64 (cmpA (r, xs) (s, ys)))) := by
  refine f73_calls _ _ ⟨_, rfl, fun w1 hw1 => ⟨_, rfl, fun w3 hw3 m => ?_⟩⟩
  have g1 := alloc_grow hw1
  have g3 := alloc_grow hw3
  have gm : Grow w3 (dr w3 m.1) := (Grow.refl w3).dr m.1
  have gD := (g1.trans g3).trans gm
  have d1 : w1.drawn = w.drawn := by subst hw1; rfl
  have d3 : w3.drawn = w1.drawn := by subst hw3; rfl
  have dm : w.drawn ≤ (dr w3 m.1).drawn := by have := m.2; show w.drawn ≤ m.1; omega
  have hxD := hx.grow gD
  have hyD := hy.grow gD
  have a0 := (g3.trans gm).cell (boxc hw1 0 _ rfl)
  have a1 := (g3.trans gm).cell (boxc hw1 1 _ rfl)
  have b0 := gm.cell (boxc hw3 0 _ rfl)
  have b1 := gm.cell (boxc hw3 1 _ rfl)
  refine ⟨_, a0, _, b0, _, a1, _, b1, cmpI_c.mono ?_⟩
  rintro e w10 ⟨rfl, rfl⟩
  refine ⟨_, rfl, Grow.refl _, (compare_c hxD hyD).mono ?_⟩
  rintro e w13 ⟨rfl, rfl⟩
  refine ⟨_, rfl, Grow.refl _, fun w16 hw16 => ⟨alloc_grow hw16, ?_⟩⟩
  have hl := Own.lit (B := (dr w3 m.1).heap.size) (n := 2) (sz := 1) hw16 (Nat.le_refl _) (by omega) (by simp)
  refine (or_c (x := cmpI r s) (y := cmpL xs ys) (Own.slI hl)).mono ?_
  rintro e w17 ⟨rfl, rfl⟩
  refine ⟨_, rfl, Grow.refl _, ?_, gD.trans (alloc_grow hw16), ?_⟩
  · simp only [cmpA, keyA, cmpL]
  · have : w17.drawn = (dr w3 m.1).drawn := by subst hw16; rfl
    omega
theorem sortLi_c {T : Nat → Prop} {w : World} {B : Nat} {v : Value} {l : List Atm} (ho : OwnX T 2 repA w B 33 v l) (hlen : l.length ≤ 1000000) : Calls Try.prog 72 #[v, .func (.func 73) #[] #[]] w fun e w' =>
    ∃ l', e = .returned (.tuple #[]) ∧ l'.Perm l ∧ OwnX T 2 repA w' B 33 v l' ∧ FrO v w w' := by
  obtain ⟨ps, hps, hel, hown⟩ := ho.ex
  have hpl : ps.length = l.length := by rw [← hps, List.length_map]
  have none : ∀ a c, l = [] → Calls Try.prog 72 #[.slice a 0 c, .func (.func 73) #[] #[]] w fun e w' => e = .returned (.tuple #[]) ∧ w' = w := fun a c _ =>
    AnyF.slices_SortFunc_none Try.laysSlF06_f72 a c _ w
  rcases hown.2 with ⟨rfl, h0⟩ | ⟨g, cap, cur, rfl, hb, hgg, hnc, hcm, hcs, htake⟩
  · have hl : l = [] := by simpa using h0
    subst hl
    refine (none _ _ rfl).mono ?_
    rintro e w' ⟨rfl, rfl⟩
    exact ⟨[], rfl, List.Perm.refl _, ho, Fr.refl _ _⟩
  by_cases hl : l = []
  · subst hl
    refine (none _ _ rfl).mono ?_
    rintro e w' ⟨rfl, rfl⟩
    exact ⟨[], rfl, List.Perm.refl _, ho, Fr.refl _ _⟩
  have hgw : g < w.heap.size := (Array.getElem?_eq_some_iff.1 hgg).1
  have hpos : 0 < ps.length := by
    rcases Nat.eq_zero_or_pos l.length with h | h
    · exact absurd (by simpa using h) hl
    · omega
  let α := { p : List Value × Atm // ElX T 2 repA (.slice (some ⟨g, 0, Option.none⟩) l.length cap) w p }
  haveI : Inhabited α := ⟨⟨ps[0], hel _ (List.getElem_mem hpos)⟩⟩
  let enc : α → List Value := fun p => p.1.1
  have hk : ∀ x, (enc x).length = 2 := fun x => x.2.len
  let d : Array α := (ps.pmap (fun p hp => (⟨p, hp⟩ : α)) hel).toArray
  have hds : d.size = l.length := by simp [d, hpl]
  have hfl : d.toList.flatMap enc = ps.flatMap Prod.fst := by
    simp only [d, enc]
    have : ∀ (qs : List (List Value × Atm)) (hq : ∀ p ∈ qs, ElX T 2 repA (.slice (some ⟨g, 0, Option.none⟩) l.length cap) w p), (qs.pmap (fun p hp => (⟨p, hp⟩ : α)) hq).flatMap (fun p => p.1.1) = qs.flatMap Prod.fst := by
      intro qs
      induction qs with
      | nil => intro _; rfl
      | cons q r ih => intro hq; simp only [List.pmap_cons, List.flatMap_cons]; rw [ih]
    exact this ps hel
  have hcont : d.toList.map (fun p => p.1.2) = l := by
    refine Eq.trans ?_ hps
    simp only [d, List.map_pmap]
    rw [List.pmap_eq_map]
  have hH : HoldsK enc 2 w g 0 d := by
    unfold HoldsK
    rw [flatK_eq hk (by omega), hfl]
    exact Own.holds hown
  have eg := callAll 73 (by kernel_rfl)
  have hcmp : CmpLays Try.prog 73 #[] enc 2 (fun x y => cmpA x.1.2 y.1.2) g 0 d.size w := by
    intro m os dk hdk x y
    have hfr : FrT T (.slice (some ⟨g, 0, Option.none⟩) l.length cap) w (sortWorldK enc 2 w g 0 m dk os) := (put_fr (n := m) (os := os) (flatK enc 2 dk)).mono fun b _ e => .inr (by rw [e]; rfl)
    obtain ⟨u, h1, hu⟩ := x.2.rep _ hfr
    obtain ⟨u', h1', hu'⟩ := y.2.rep _ hfr
    have e1 : enc x = [.int .i64 x.1.2.1, u] := h1
    have e2 : enc y = [.int .i64 y.1.2.1, u'] := h1'
    rw [e1, e2]
    refine (listLt_c (r := x.1.2.1) (s := y.1.2.1) hu hu').mono ?_
    rintro e w' ⟨rfl, hg, hd⟩
    exact ⟨rfl, growD hg hd⟩
  have key := Try.slices_SortFunc_facts 2 agg_fact size_fact enc hk (fun x => x.2.one) (fun x y => cmpA x.1.2 y.1.2) (swoL (α := α) fun x => keyA x.1.2) 73 #[] g 0 cap d w eg hcmp hH hgw (by omega)
  rw [hds] at key
  refine key.mono ?_
  rintro e w' ⟨rfl, d', n, os, hperm, hsort, rfl⟩
  have hds' : d'.size = l.length := hperm.1.trans hds
  have hp : d'.toList.Perm d.toList := by
    have := hperm.2.2
    have a1 : d'.extract 0 l.length = d' := by rw [← hds']; simp
    have a2 : d.extract 0 l.length = d := by rw [← hds]; simp
    rwa [a1, a2] at this
  have hf : FrO (.slice (some ⟨g, 0, Option.none⟩) l.length cap) w (sortWorldK enc 2 w g 0 n d' os) := (put_fr (n := n) (os := os) (flatK enc 2 d')).mono fun b _ e => by rw [e]; rfl
  refine ⟨d'.toList.map (fun p => p.1.2), rfl, ?_, ⟨d'.toList.map (fun p => p.1), by rw [List.map_map]; rfl, fun p hp' => ?_, ?_⟩, hf⟩
  · have := hp.map (fun p => p.1.2)
    rwa [hcont] at this
  · obtain ⟨q, _, rfl⟩ := List.mem_map.1 hp'
    exact q.2.later (hf.mono fun b _ e => .inr e)
  · have e1 : (d'.toList.map (fun p => p.1)).flatMap Prod.fst = d'.toList.flatMap enc := by rw [List.flatMap_map]
    have e2 : (d'.toList.map (fun p => p.1.2)).length = l.length := by simp [hds']
    rw [e1, e2]
    have hb2 := Own.behind (m := n) (os := os) (ts := d'.toList.flatMap enc) hown (by rw [flat_len hk]; simp [hds'])
    have e3 : sortWorldK enc 2 w g 0 n d' os = Go.Sort.grow (putRow id (Go.Sort.ahead w n) g 0 (d'.toList.flatMap enc).toArray) os := by
      rw [← flatK_eq hk (by omega)]; rfl
    rw [e3]; exact hb2
theorem factsN_snoc (c : Nat) (l : List Nat) (p : Nat) : factsN c (l ++ [p]) = factsN c l ++ [((p : Int), [(c : Int)])] := by simp [factsN]
theorem list_c {c : Nat} (hc : 1 ≤ c) {w : World} {b : Nat} {S : List Nat} (hS : MapF c w b S) (hnd : S.Nodup) : Calls Try.prog 38 #[.map (some b)] w fun e w' => ∃ v L, e = .returned v ∧ SlA w' v L ∧ L.Perm (factsN c S) ∧ Grow w w' := by
  refine f38_calls _ ?_
  have hlt := hS.lt
  have h8 := len8 hnd hS.r8
  refine MapF.range map_und.1 hS fun w1 hit g1 z1 => ?_
  obtain ⟨IT, eIT⟩ : ∃ IT, IT = w.heap.size := ⟨_, rfl⟩
  rw [← eIT] at hit ⊢
  refine ⟨fun out w' => ∃ (left S' : List Nat), ItF c w' b IT S left ∧ OwnF w' w1.heap.size out (factsN c S') ∧ (S' ++ left).Perm S ∧ Fr (fun i => i = IT) w1 w', fun _ w' => itLeftF w' b IT, ⟨S, [], hit, OwnX.nil _ _ _, List.Perm.refl _, Fr.refl _ _⟩, ?_⟩
  rintro - out w7 ⟨left, S', hI, hX, hp, f7⟩
  have z7 := f7.size
  rcases hI.next (P := Try.prog) (by omega : IT ≠ b) 0 with ⟨rfl, hrun⟩ | ⟨p, left', w11, hperm, hrun, hI11, f11, hent⟩
  · rw [List.append_nil] at hp
    have hl : (factsN c S').length ≤ 8 := by simp [factsN, hp.length_eq]; omega
    refine .inl ⟨_, hrun, (sortLi_c hX (by omega)).mono ?_⟩
    rintro e w12 ⟨l', rfl, hpl, hX12, f12⟩
    refine ⟨rfl, out, l', rfl, OwnX.slX hX12, hpl.trans (hp.map _), ?_⟩
    refine Grow.fr (Grow.fr g1 f7 fun i hi e => by omega) f12 fun i hi e => ?_
    have := (OwnX.lt hX e.symm).1
    omega
  · refine .inr ⟨_, _, _, hrun, _, _, _, hent, fun w17 hw17 => ?_⟩
    have hln : (S' ++ p :: left').Perm S := (List.Perm.append_left S' hperm).symm.trans hp
    have hlen : S'.length + 1 ≤ 8 := by
      have := hln.length_eq
      simp at this
      omega
    refine RecV.init (cs := kL3 c p) hw17 rfl (kL3_one c p) fun w18 g18 z18 h18 => ⟨kL3 c p, rfl, h18.all, ?_⟩
    refine (api_c (c := c) (r := p) hc).mono ?_
    rintro e w21 ⟨v, rfl, ho, g21⟩
    have g1121 := g18.trans g21
    have z11 := f11.size
    have hX11 : OwnF w11 w1.heap.size out (factsN c S') := OwnX.fr hX f11 (fun i e => by show i < w1.heap.size; omega) fun i hi e => by have := (OwnX.lt hX hi).1; omega
    refine ⟨_, rfl, bs1 el_fact (by omega) (by omega) (cs := #[.int .i64 (p : Int), v]) rfl w21 fun w24 hw24 => ?_⟩
    have g24 := alloc_grow hw24
    refine pappX1 el_fact (by omega) (cs := [.int .i64 (p : Int), v]) (y := ((p : Int), [(c : Int)])) (OwnX.grow hX11 g1121) hw24 (elx_own ho (fun i hi => by have := g18.size; omega) fun i hi => by have := (OwnX.lt hX11 hi).2; have := g18.size; omega) (by have := g1121.size; omega) (by simp [factsN]; omega) (by omega) ?_
    intro v2 w27 ho2 hf2 _ _
    have f27 : Fr (fun i => i = IT ∨ some i = out.ownBlock) w7 w27 := (f11.mono fun i _ e => .inl e).trans ((Fr.of_grow (g1121.trans g24)).trans (hf2.mono fun i _ e => .inr e))
    have hI27 : ItF c w27 b IT S left' := (hI11.grow (g1121.trans g24)).fr hf2 (fun e => by have := (OwnX.lt hX e.symm).1; omega) fun e => by have := (OwnX.lt hX e.symm).1; omega
    refine ⟨⟨left', S' ++ [p], hI27, by rw [factsN_snoc]; exact ho2, by simpa using hln, ?_⟩, ?_⟩
    · exact Fr.mono ((f7.mono fun i _ e => .inl e).trans f27) fun i hi e => e.elim id fun e => by
        have := (OwnX.lt hX e.symm).1
        omega
    · dsimp only
      rw [itLeftF_eq hI27, itLeftF_eq hI, hperm.length_eq, List.length_cons]
      omega
/-! ## model -/
theorem el_rule : ElT Try.prog 44 48 3 56 (.agg #[.int .i64 0, .slice none 0 0, .slice none 0 0]) := ⟨by kernel_rfl, ⟨Try.t48, by kernel_rfl, by kernel_rfl, by kernel_rfl, by kernel_rfl⟩, rfl⟩
theorem unpin {α : Type} {k : Nat} {rep : World → List Value → α → Prop} (hm : Mono rep) {w0 w : World} {v : Value} {xs : List α} (h : SlX k (fun _ cs x => rep w0 cs x) w v xs) (g : Grow w0 w) : SlX k rep w v xs := by
  obtain ⟨a, c, e, h1, h2, h3, h4⟩ := h.ex
  exact ⟨a, c, e, h1, h2, h3, fun i hi => by
    obtain ⟨b, cs, e1, e2, e3, e4⟩ := h4 i hi
    exact ⟨b, cs, e1, e2, e3, hm _ _ _ _ g e4⟩⟩
theorem zero6 : ∀ b, (h : b < 6) → ([0, 0, 0, 0, 0, 0] : List Int)[b]'(by simpa using h) = 0 := by decide
theorem model_c {c : Nat} (hc : 1 ≤ c) (h6 : c ≤ 6) {w : World} {lv fv : Value} {RL : List (Nat × List Nat)} {l : List Nat} (hl : SlX 3 (repRule c) w lv RL) (hf : SlA w fv (factsN c l)) (hR : OkR RL) (hr : ∀ r ∈ l, r < 6) : Calls Try.prog 37 #[lv, fv] w fun e w' => ∃ b S, e = .returned (.tuple #[.map (some b), .bool true]) ∧ MapF c w' b S ∧ S.Nodup ∧ LeastR RL l S ∧ Grow w w' := by
  refine f37_calls _ _ ((strata_c hl fun r hr => ⟨(hR.lt r hr).1, (hR.lt r hr).2.2⟩).mono ?_)
  rintro e w1 ⟨v, rfl, hv, g1⟩
  refine ⟨_, _, rfl, cF rfl ((given_c (c := c) (by omega) (hf.gr g1) fun r h => by have := hr r h; omega).mono ?_)⟩
  rintro e w5 ⟨b, S, rfl, hS, hnd, hmem, hb, g5⟩
  have g05 := g1.trans g5
  refine ⟨_, rfl, (maxI_c (hv.grow g5) (by simp)).mono ?_⟩
  rintro e w8 ⟨m, rfl, hm, -, g8⟩
  obtain rfl : m = 0 := by simpa using hm
  have g08 := g05.trans g8
  refine ⟨_, rfl, by unfold inR; omega, fun out t w' => (t = 0 ∧ out = .map (some b) ∧ w' = w8) ∨ (t = 1 ∧ ∃ b S, out = .map (some b) ∧ MapF c w' b S ∧ S.Nodup ∧ LeastR RL l S ∧ Grow w w'), fun _ t _ => 1 - t.toNat, .inl ⟨rfl, rfl, rfl⟩, ?_⟩
  rintro - out t w16 (⟨rfl, rfl, rfl⟩ | ⟨rfl, b2, S2, rfl, h2⟩)
  · refine cT rfl ?_
    have sl := hl.grow (repRule_mono c) g08
    have hle := SlX.len_le hl
    have h10 := hR.len
    refine SlX.ln sl ⟨fun part t w' => ∃ k : Nat, t = k ∧ k ≤ RL.length ∧ OwnX (fun _ => True) 3 (fun _ cs x => repRule c w cs x) w' w16.heap.size 48 part (RL.take k) ∧ Grow w16 w', fun _ t _ => RL.length - t.toNat, ⟨0, rfl, by omega, OwnX.nil _ _ _, Grow.refl _⟩, ?_⟩
    rintro - part t w25 ⟨k, rfl, hk, hX, g25⟩
    have g025 := g08.trans g25
    refine condD (fun hlt => ?_) fun hge => ?_
    · have hkl : k < RL.length := by omega
      have hlt := hR.lt _ (List.getElem_mem hkl)
      refine SlX.rd (pinS hl g025) rfl hkl ?_
      rintro cs - ⟨uh, bv, rfl, huh, hbv⟩ w30 hw30
      have one : ∀ y ∈ [Value.int .i64 (RL[k].1 : Int), uh, bv], y.oneCell' = true := by
        intro y hy
        simp at hy
        rcases hy with rfl | rfl | rfl
        · rfl
        · exact huh.one.2
        · exact hbv.one.2
      refine RecV.init (cs := [.int .i64 (RL[k].1 : Int), uh, bv]) hw30 rfl one fun w31 g31 z31 h31 => ?_
      have z25 := g25.size
      refine ⟨_, by rw [add_add]; exact h31.cell (j := 0) rfl, (hv.grow ((g5.trans g8).trans (g25.trans g31))).rd (i := RL[k].1) rfl (by simpa using hlt.1) ?_⟩
      rw [zero6 _ hlt.1]
      refine cT rfl ⟨[.int .i64 (RL[k].1 : Int), uh, bv], rfl, h31.all, bs1 el_rule (by omega) (by omega) (cs := #[.int .i64 (RL[k].1 : Int), uh, bv]) rfl w31 fun w39 hw39 => ?_⟩
      have g39 := alloc_grow hw39
      refine pappX1 el_rule (by omega) (cs := [.int .i64 (RL[k].1 : Int), uh, bv]) (y := RL[k]) (OwnX.grow hX g31) hw39 ⟨rfl, one, fun _ _ => ⟨uh, bv, rfl, huh, hbv⟩⟩ (by have := g31.size; omega) (by simp; omega) (by omega) ?_
      intro v2 w42 ho2 hf2 _ _
      refine ⟨by unfold inR; omega, ⟨k + 1, by omega, by omega, ?_, ((g25.trans g31).trans g39).fr hf2 fun i hi e => by have := (OwnX.lt hX e.symm).1; omega⟩, by first | omega | (dsimp only; omega)⟩
      rw [List.take_succ_eq_append_getElem hkl]
      exact ho2
    · have hkn : k = RL.length := by omega
      subst hkn
      rw [List.take_length] at hX
      have hp := unpin (repRule_mono c) (OwnX.slX hX) g025
      refine (consequences_c hc hp (fun r hr => (hR.lt r hr).1) (by omega) (hS.grow (g8.trans g25)) hnd ⟨rfl, rfl⟩).mono ?_
      rintro e w43 ⟨b', S', rfl, hS', hnd', hL, g43⟩
      exact ⟨_, rfl, by unfold inR; omega, .inr ⟨rfl, b', S', rfl, hS', hnd', ⟨fun r h => hL.base r ((hmem r).2 h), hL.closed, fun T h1 h2 => hL.least T (fun r h => h1 r ((hmem r).1 h)) h2⟩, g025.trans g43⟩, by show 1 - Int.toNat (0 + 1) < 1 - Int.toNat 0; decide⟩
  · exact cF rfl ⟨b2, S2, rfl, h2.1, h2.2.1, h2.2.2.1, h2.2.2.2⟩
theorem Model_c {c : Nat} (hc : 1 ≤ c) (h6 : c ≤ 6) {w : World} {lv fv : Value} {RL : List (Nat × List Nat)} {l : List Nat} (hl : SlX 3 (repRule c) w lv RL) (hf : SlA w fv (factsN c l)) (hR : OkR RL) (h20 : l.length ≤ 20) (hr : ∀ r ∈ l, r < 6) : Calls Try.prog 17 #[lv, fv] w fun e w' => ∃ v L S, e = .returned (.tuple #[v, .int .i64 0]) ∧ SlA w' v L ∧ L.Perm (factsN c S) ∧ S.Nodup ∧ LeastR RL l S ∧ Grow w w' := by
  refine f17_calls _ _ ((validRu_c hc h6 hl hf hR h20 hr).mono ?_)
  rintro e w1 ⟨rfl, g1⟩
  refine ⟨_, rfl, cF rfl ((model_c hc h6 (hl.grow (repRule_mono c) g1) (hf.gr g1) hR hr).mono ?_)⟩
  rintro e w4 ⟨b, S, rfl, hS, hnd, hL, g4⟩
  refine ⟨_, _, rfl, cF rfl ((list_c hc hS hnd).mono ?_)⟩
  rintro e w8 ⟨v, L, rfl, hv, hp, g8⟩
  exact ⟨v, rfl, v, L, S, rfl, hv, hp, hnd, hL, (g1.trans g4).trans g8⟩
end Go.Proofs.Ytleiddajojgmmaa
