/- Contracts: what the statements about repairs have in common. The table of bits is laid where it is asked (Tab). -/
import Derived.Test.YtmjpnfapjcfejaaGreatDoorRf
import Derived.Test.YtmjpnfapjcfejaaGreatDoorRl
import Derived.Test.YtmjpnfapjcfejaaGreatDoorMs
import Derived.Test.YtmjpnfapjcfejaaGreatDoorGsu
import Derived.Test.YtmjpnfapjcfejaaGreatDoorRc
import Derived.Test.YtmjpnfapjcfejaaGreatDoorVr
namespace Go.Proofs.YtmjpnfapjcfejaaGreatDoor
open Go Go.RowKit VC
set_option linter.unusedSimpArgs false
set_option linter.unusedVariables false

theorem few7_c {w : World} {v : Value} {xs : List Int} (hs : SlI w v xs) : Calls Tryz.prog 12 #[v] w fun e w' => ∃ v', e = .returned v' ∧ OwnI w' w.heap.size v' (xs.take 9) ∧ Grow w w' := by
  refine f12_calls _ ?_
  have hle := hs.len_le
  have e : (if 9 < (xs.length : Int) then (9 : Int) else xs.length) = ((min 9 xs.length : Nat) : Int) := by split <;> omega
  refine hs.ln ?_
  rw [e]
  obtain ⟨a, n, c, e1, l, h, m, h2, hv'⟩ := hs.upto (i := min 9 xs.length) (k := .i64) (K := fun x => SlI w x (xs.take 9)) rfl (by omega) fun v' hv' => by rwa [take_min] at hv'
  refine ⟨a, n, c, e1, l, h, m, h2, (clone_c hv' (by simp; omega)).mono ?_⟩
  rintro e w1 ⟨u, rfl, ho, g1⟩
  exact ⟨u, rfl, u, rfl, ho, g1⟩
theorem fill_three {A : Array Value} (h : A.size = 6) {a0 a1 b0 b1 c0 c1 : Value} : Instr.fill (fun i => some (i * 2, 2)) A [(0, .agg #[a0, a1]), (1, .agg #[b0, b1]), (2, .agg #[c0, c1])] = some #[a0, a1, b0, b1, c0, c1] := by
  obtain ⟨l⟩ := A
  match l, h with
  | [x0, x1, x2, x3, x4, x5], _ => rfl
theorem bs3 {P : Program} {t e : TypeId} {bytes : Nat} {z : Value} (hT : ElT P t e 2 bytes z) {a0 a1 b0 b1 c0 c1 : Value} (w : World) {K : Value → World → Prop}
    (hk : ∀ w', w' = w.alloc (.cells #[a0, a1, b0, b1, c0, c1] e) → K (.slice (some ⟨w.heap.size, 0, none⟩) 3 3) w') : ∃ v : Value, ∃ w' : World, (Instr.buildSlice t 3 #[(0, .agg #[a0, a1]), (1, .agg #[b0, b1]), (2, .agg #[c0, c1])]).run P w = .ok v w' ∧ K v w' := by
  obtain ⟨i, hi, hz, hsize, hby⟩ := hT.info
  refine ⟨_, _, ?_, hk _ rfl⟩
  have hs : (sizeOf e).run P w = .ok 2 w := by simp [sizeOf, typeInfo, hi, hsize]
  have hzr : (zeroValue e).run P w = .ok z w := by simp [zeroValue, typeInfo, hi, hz]
  simp only [Instr.buildSlice, Sem.run_bind, underlying_run hT.und, Result.andThen_ok, hs]
  rw [if_neg (by omega), if_neg (by omega)]
  have hf := fill_three (A := (Array.range (3 * 2)).map fun j => z.cells[j % z.cells.size]!) (by simp) (a0 := a0) (a1 := a1) (b0 := b0) (b1 := b1) (c0 := c0) (c1 := c1)
  simp only [Sem.run_bind, hzr, Result.andThen_ok, Sem.run_pure, hf, newRow, run_newObj]
  rfl
theorem awake7_val : okR [1, 1, 1, 1, 1, 1] [(0, [1, 2]), (0, [1, 3]), (0, [2, 3])] = true ∧ blksL [1, 1, 1, 1, 1, 1] [(0, [1, 2]), (0, [1, 3]), (0, [2, 3])] = [0, 0, 2] := by decide +kernel
theorem awake7_c {w : World} : Calls Tryz.prog 16 #[] w (Ret w (.bool true)) := by
  refine f16_calls ?_
  intro w1 hw1 w2 hw2
  have g1 := alloc_grow hw1
  have g2 := alloc_grow hw2
  have hs := slI_lit (xs := [1, 1, 1, 1, 1, 1]) hw1 rfl (by simp)
  have h1 := slI_lit (xs := [1, 2]) hw2 rfl (by simp)
  refine ⟨SlI.one h1, fun w3 hw3 => ?_⟩
  have g3 := alloc_grow hw3
  have h2 := slI_lit (xs := [1, 3]) hw3 rfl (by simp)
  refine ⟨SlI.one h2, fun w4 hw4 => ?_⟩
  have g4 := alloc_grow hw4
  have h3 := slI_lit (xs := [2, 3]) hw4 rfl (by simp)
  refine ⟨SlI.one h3, bs3 el_fact w4 fun w5 hw5 => ?_⟩
  have g5 := alloc_grow hw5
  have hl : SlA w5 (.slice (some ⟨w4.heap.size, 0, none⟩) 3 3) [(0, [1, 2]), (0, [1, 3]), (0, [2, 3])] := by
    have h := Own.lit (B := w4.heap.size) (n := 3) (sz := 2) hw5 (Nat.le_refl _) (by omega) (by simp)
    have := SlX.of_cells (k := 2) (rep := repA) (w := w5) (v := .slice (some ⟨w4.heap.size, 0, none⟩) 3 3) (ps := [([.int .i64 0, .slice (some ⟨w1.heap.size, 0, none⟩) 2 2], (0, [1, 2])), ([.int .i64 0, .slice (some ⟨w2.heap.size, 0, none⟩) 2 2], (0, [1, 3])), ([.int .i64 0, .slice (some ⟨w3.heap.size, 0, none⟩) 2 2], (0, [2, 3]))]) (fun p hp => by
      simp only [List.mem_cons, List.not_mem_nil, or_false] at hp
      rcases hp with rfl | rfl | rfl
      · exact ⟨rfl, _, rfl, SlI.grow h1 ((g3.trans g4).trans g5)⟩
      · exact ⟨rfl, _, rfl, SlI.grow h2 (g4.trans g5)⟩
      · exact ⟨rfl, _, rfl, SlI.grow h3 g5⟩) (by simpa using h.slC)
    simpa using this
  have g05 := (((g1.trans g2).trans g3).trans g4).trans g5
  refine (blocks_c (SlI.grow hs (((g2.trans g3).trans g4).trans g5)) hl).mono ?_
  rintro e w7 ⟨v, rfl, hv, g7⟩
  rw [if_pos awake7_val.1, awake7_val.2] at hv
  refine ⟨_, _, rfl, cT (by rw [if_pos awake7_val.1]; rfl) fun w11 hw11 => ?_⟩
  have g11 := alloc_grow hw11
  have hr := slI_lit (xs := [0, 0, 2]) hw11 rfl (by simp)
  refine (equal_c (hv.grow g11) hr).mono ?_
  rintro e w12 ⟨rfl, g12⟩
  exact ⟨_, rfl, by simp, ((g05.trans g7).trans g11).trans g12⟩
section
variable {w : World} {sv fv hv bv : Value} {s h : List Int} {b L : List Atm}
end
end Go.Proofs.YtmjpnfapjcfejaaGreatDoor

/- Contracts: why a question has no answer, in the statements. No condition. -/
namespace Go.Proofs.YtmjpnfapjcfejaaGreatDoor
open Go Go.RowKit VC
set_option linter.unusedSimpArgs false
set_option linter.unusedVariables false

theorem askE_tr (q : Bool) (s h : List Int) (b L : List Atm) : askE q (s.take 9) (h.take 9) (trB b) (trF L) = askE q s h b L := by
  unfold askE
  rw [okR_tr, askO_tr]
  have : decide (0 < (h.take 9).length) = decide (0 < h.length) := decide_eq_decide.2 (by rw [List.length_take]; omega)
  rw [this]
theorem askE_ok {q : Bool} {s h : List Int} {b L : List Atm} (h0 : askE q s h b L = 0) : okR s L = true ∧ (askO h b L).1 = 0 ∧ okQ h b = true ∧ s.take 9 = s ∧ h.take 9 = h ∧ trB b = b ∧ trF L = L ∧ (q = true → h = []) := by
  unfold askE at h0
  split at h0
  · rename_i hc
    rw [Bool.and_eq_true, Bool.not_eq_true', Bool.and_eq_false_iff, decide_eq_false_iff_not] at hc
    have hq := (askO_ok h0).1
    refine ⟨hc.1, h0, hq, (okR_trF hc.1).2, (trB_of hq).2, (trB_of hq).1, (okR_trF hc.1).1, fun e => ?_⟩
    rcases hc.2 with h1 | h1
    · rw [e] at h1; cases h1
    · exact List.length_eq_zero_iff.1 (by omega)
  · cases h0
section
variable {w : World} {sv fv hv bv : Value} {s h : List Int} {b L : List Atm}
end
end Go.Proofs.YtmjpnfapjcfejaaGreatDoor

/- Contracts: slices.DeleteFunc of rows of the call's own; Sure, by the program. The table of bits is laid (Tab). -/
namespace Go.Proofs.YtmjpnfapjcfejaaGreatDoor
open Go Go.RowKit VC
set_option linter.unusedSimpArgs false
set_option linter.unusedVariables false

/-- A function that is asked of each row, while the slice's own cells turn. -/
def AsksX (T : Nat → Prop) (w : World) (v f : Value) (L : List (List Int)) (p : List Int → Bool) : Prop :=
  ∃ g fst cap, f = .func (.func g) fst cap ∧ callOK g = true ∧ ∀ x ∈ L, ∀ w' u, FrT T v w w' → SlI w' u x → Calls Tryz.prog g (fst ++ #[u] ++ cap) w' (Ret w' (.bool (p x)))
structure DlL (T : Nat → Prop) (w : World) (B g n cap : Nat) (l : List (List Int)) (p : List Int → Bool) (ps : List (List Value × List Int)) (a b : Nat) (w' : World) (qs : List (List Value × List Int)) : Prop where
  len : qs.length = n
  kept : (qs.take a).map Prod.snd = (l.take b).filter fun x => !p x
  rest : ∀ i, b ≤ i → qs[i]? = ps[i]?
  el : ∀ q ∈ qs, ElX T 1 repI (.slice (some ⟨g, 0, none⟩) n cap) w' q
  own : Own w' B 22 1 (.slice (some ⟨g, 0, none⟩) n cap) n (qs.flatMap Prod.fst)
  fr : Fr (fun b => b = g) w w'
theorem deleteL_c {T : Nat → Prop} {w : World} {B : Nat} {v f : Value} {l : List (List Int)} {p : List Int → Bool} (ho : OwnX T 1 repI w B 22 v l) (hf : AsksX T w v f l p) : Calls Tryz.prog 49 #[v, f] w fun e w' => ∃ v', e = .returned v' ∧ OwnX T 1 repI w' B 22 v' (l.filter fun x => !p x) ∧ FrO v w w' ∧ (∀ b, v'.ownBlock = some b → v.ownBlock = some b) := by
  refine f49_calls _ _ ?_
  obtain ⟨fg, fst, fc, rfl, hok, hcall⟩ := hf
  have hle := SlX.len_le ho.slX
  refine (indexL_c (p := p) ho.slX ⟨fg, fst, fc, rfl, hok, fun x hx w' u gg hu => hcall x hx w' u (Fr.of_grow gg) hu⟩).mono ?_
  rintro e w1 ⟨rfl, g1⟩
  refine ⟨_, rfl, condD (fun h1 => ⟨v, rfl, ?_, Fr.of_grow g1, fun b hb => hb⟩) fun hne => ?_⟩
  · have : (l.filter fun x => !p x) = l := by
      refine List.filter_eq_self.2 fun x hx => ?_
      have h2 := idxOf_any p l
      rw [h1] at h2
      have h3 : l.any p = false := by rw [← h2]; rfl
      have := List.any_eq_false.1 h3 x hx
      simpa using this
    rw [this]
    exact ho.grow g1
  -- the first that goes
  have hfi : ∃ (k : Nat) (hk : k < l.length), idxOf p l = k ∧ p l[k] = true ∧ ∀ j (hj : j < l.length), j < k → p l[j] = false := by
    unfold idxOf at hne ⊢
    cases hx : l.findIdx? p with
    | none => rw [hx] at hne; exact absurd rfl hne
    | some k =>
      obtain ⟨hk, h2, h3⟩ := List.findIdx?_eq_some_iff_getElem.1 hx
      exact ⟨k, hk, rfl, h2, fun j hj hlt => by simpa using h3 j hlt⟩
  obtain ⟨k, hk, ek, hpk, hbef⟩ := hfi
  rw [ek]
  obtain ⟨ps, hps, hel, hown⟩ := ho.ex
  have hpl : ps.length = l.length := by rw [← hps, List.length_map]
  have hv : ∃ g cap, v = .slice (some ⟨g, 0, none⟩) l.length cap ∧ l.length ≤ cap ∧ g < w.heap.size := by
    rcases hown.2 with ⟨_, h0⟩ | ⟨g, cap, cur, rfl, hb, hgg, hnc, _⟩
    · omega
    · exact ⟨g, cap, rfl, hnc, (Array.getElem?_eq_some_iff.1 hgg).1⟩
  obtain ⟨g, cap, rfl, hcap, hgw⟩ := hv
  have idx : ∀ i (hi : i < l.length), (ps[i]'(by omega)).2 = l[i] := fun i hi => by
    simp only [← hps, List.getElem_map]
  have one : ∀ {w1 : World} {p : List Value × List Int}, ElX T 1 repI (.slice (some ⟨g, 0, none⟩) l.length cap) w1 p → ∃ a, p.1 = [a] ∧ SlI w1 a p.2 := fun {w1 p} hp => by
    obtain ⟨u, h1, hu⟩ := hp.rep w1 (Fr.refl _ _)
    exact ⟨u, h1, hu⟩
  refine ⟨by unfold inR; omega, fun i j w' => ∃ (a b : Nat) (qs : List (List Value × List Int)), i = a ∧ j = b ∧ a + 1 ≤ b ∧ b ≤ l.length ∧ DlL T w B g l.length cap l p ps a b w' qs, fun _ j _ => l.length - j.toNat, ⟨k, k + 1, ps, rfl, rfl, by omega, by omega, ⟨hpl, ?_, fun _ _ => rfl, fun q hq => (hel q hq).grow g1, Own.grow hown g1, Fr.of_grow g1⟩⟩, ?_⟩
  · rw [List.map_take, hps, List.take_succ_eq_append_getElem hk, List.filter_append, List.filter_cons, hpk]
    have : ((l.take k).filter fun x => !p x) = l.take k := List.filter_eq_self.2 fun x hx => by
      obtain ⟨j, hj, rfl⟩ := List.getElem_of_mem hx
      rw [List.length_take] at hj
      rw [List.getElem_take, hbef j (by omega) (by omega)]; rfl
    rw [this]
    simp
  rintro - - - w9 ⟨a, b, qs, rfl, rfl, hab, hbl, hI⟩
  have hql : ∀ q ∈ qs, q.1.length = 1 := fun q hq => (hI.el q hq).len
  have hqn := hI.len
  refine ⟨_, _, _, rfl, condD (fun hlt => ?_) fun hge => ?_⟩
  · have hb2 : b < l.length := by omega
    have qe : qs[b]'(by omega) = ps[b]'(by omega) := by
      have := hI.rest b (Nat.le_refl _)
      rw [List.getElem?_eq_getElem (by omega), List.getElem?_eq_getElem (by omega)] at this
      exact Option.some.inj this
    have c1 : (qs[b]'(by omega)).2 = l[b] := by rw [qe, idx]
    obtain ⟨u, ea, hu⟩ := one (hI.el _ (List.getElem_mem (show b < qs.length by omega)))
    rw [c1] at hu
    have atb : ∀ (x : Nat), Addr.add ⟨g, 0, none⟩ (x * 1) = ⟨g, x * 1 + 0, none⟩ := fun x => by rw [Addr.add0]; rfl
    refine ⟨_, _, _, rfl, ⟨by omega, by omega⟩, u, ?_, fg, fst, fc, rfl, hok, (hcall l[b] (List.getElem_mem hb2) w9 u (hI.fr.mono fun b' _ e => .inr (by rw [e]; rfl)) hu).mono ?_⟩
    · rw [Int.toNat_natCast, atb]; exact rec_al hql hI.own (by omega) 0 u (by rw [ea]; rfl)
    rintro e w17 ⟨rfl, g17⟩
    have hI17 : DlL T w B g l.length cap l p ps a b w17 qs := ⟨hqn, hI.kept, hI.rest, fun q hq => (hI.el q hq).grow g17, Own.grow hI.own g17, hI.fr.trans (Fr.of_grow g17)⟩
    have hst : ∀ z, p l[b] = z → (l.take (b + 1)).filter (fun x => !p x) = (l.take b).filter (fun x => !p x) ++ (if z then [] else [l[b]]) := fun z hz => by
      rw [List.take_succ_eq_append_getElem hb2, List.filter_append, List.filter_cons, hz]
      cases z <;> simp
    refine ⟨_, rfl, condP_i (fun hn => ?_) fun hp => ?_⟩
    · have hn : p l[b] = false := by simpa using hn
      have hst := hst false hn
      rw [if_neg (by decide)] at hst
      have aA : Addr.add ⟨g, 0, none⟩ (Int.toNat (a : Int) * 1) = ⟨g, a, none⟩ := by rw [Int.toNat_natCast, Addr.add0]; simp
      refine ⟨_, _, _, rfl, ⟨by omega, by omega⟩, hu.one, ?_⟩
      rw [aA]
      refine ⟨(Own.wr hI17.own (show a < l.length by omega)).1, (Own.wr hI17.own (show a < l.length by omega)).2, fun w26 hw26 => ?_⟩
      have hf26 : Fr (fun k => k = g) w17 w26 := set_fr hw26
      have ho26 := Own.set hI17.own (show a < l.length by omega) hw26
      have hel17 := hI17.el _ (List.getElem_mem (show b < qs.length by omega))
      refine ⟨by unfold inR; omega, by unfold inR; omega, ⟨a + 1, b + 1, qs.set a (qs[b]'(by omega)), by omega, by omega, by omega, by omega, ?_⟩, by dsimp only; omega⟩
      refine ⟨by simpa using hqn, ?_, fun j hj => ?_, fun q hq => ?_, ?_, hI17.fr.trans hf26⟩
      · rw [hst, ← hI.kept, List.take_succ_eq_append_getElem (by simp; omega), List.map_append]
        congr 1
        · rw [List.take_set_of_le (by omega)]
        · simp [c1]
      · rw [List.getElem?_set_ne (by omega)]
        exact hI.rest j (by omega)
      · rcases List.mem_or_eq_of_mem_set hq with hq | rfl
        · exact (hI17.el q hq).later (hf26.mono fun b' _ e => .inr (by rw [e]; rfl))
        · exact hel17.later (hf26.mono fun b' _ e => .inr (by rw [e]; rfl))
      · rw [flat_set1 hql (by omega) ea]; exact ho26
    · have hp : p l[b] = true := by simpa using hp
      have hst := hst true hp
      rw [if_pos rfl, List.append_nil] at hst
      exact ⟨by unfold inR; omega, ⟨a, b + 1, qs, rfl, by omega, by omega, by omega, ⟨hqn, by rw [hst]; exact hI.kept, fun i hi => hI.rest i (by omega), hI17.el, hI17.own, hI17.fr⟩⟩, by dsimp only; omega⟩
  · have hbl2 : b = l.length := by omega
    have hsb2 : sbR (some (Value.int .i64 (a : Int))) none none l.length cap a l.length cap := ⟨rfl, rfl, rfl, by simp, by omega, by omega, by omega⟩
    have hca : ¬ cap = a := by omega
    have hfl : (qs.flatMap Prod.fst).length = qs.length * 1 := flat_len' hql
    have hzl : (Builtin.zeroCells (Value.slice none 0 0).cells (l.length - a)).toList.length = (l.length - a) * 1 := by
      rw [Array.length_toList, size_zeroCells]; rfl
    obtain ⟨w74, hr, hf74, ho74⟩ := Own.put (P := Tryz.prog) (o := a * 1) (vs := (Builtin.zeroCells (Value.slice none 0 0).cells (l.length - a)).toList) hI.own (by rw [hzl]; omega) (zeroCells_mem (by decide) (by
      intro u hu
      simp [Value.cells] at hu
      subst hu; rfl))
    refine ⟨_, _, _, rfl, a, l.length, cap, hsb2, w74, ?_, ?_⟩
    · rw [if_neg hca]
      refine clear_run el_row (by omega) ?_
      show (storeCells (Addr.add ⟨g, 0, none⟩ (a * 1)) _).run _ _ = _
      rw [Addr.add0]; exact hr
    · refine ⟨_, _, _, rfl, 0, a, cap, ⟨rfl, rfl, rfl, by simp, by omega, by omega, by omega⟩, ?_⟩
      have hcc : ¬ cap = 0 := by omega
      have hcut := Own.cut ho74 (k := a) (by omega)
      have e5 : ((qs.flatMap Prod.fst).take (a * 1) ++ (Builtin.zeroCells (Value.slice none 0 0).cells (l.length - a)).toList ++ (qs.flatMap Prod.fst).drop (a * 1 + (Builtin.zeroCells (Value.slice none 0 0).cells (l.length - a)).toList.length)).take (a * 1) = (qs.take a).flatMap Prod.fst := by
        rw [List.append_assoc, List.take_append_of_le_length (by rw [List.length_take, hfl]; omega), List.take_take, Nat.min_self]
        exact (flat_take hql).symm
      rw [e5] at hcut
      have hkl : (l.filter fun x => !p x).length = a := by
        have := congrArg List.length hI.kept
        rw [hbl2, List.take_length] at this
        rw [← this]; simp; omega
      refine ⟨_, rfl, ⟨qs.take a, ?_, fun q hq => ?_, ?_⟩, hI.fr.trans hf74 |>.mono (fun b' _ e => by rw [e]; rfl), fun b' hb' => ?_⟩
      · rw [hI.kept, hbl2, List.take_length]
      · have hq' := hI.el q (List.mem_of_mem_take hq)
        refine ⟨hq'.len, hq'.one, fun w2 hf2 => hq'.rep w2 ((hf74.mono fun b' _ e => .inr (by rw [e]; rfl)).trans (hf2.mono fun b' _ e => ?_))⟩
        rcases e with e | e
        · exact .inl e
        · refine .inr ?_
          rw [if_neg hcc] at e
          simpa [Value.ownBlock, add_block] using e
      · rw [hkl, if_neg hcc]
        simpa [Addr.add0] using hcut
      · rw [if_neg hcc] at hb'
        simpa [Value.ownBlock, add_block] using hb'
/-! ## Sure -/
theorem sure2_c {w : World} {x y : Value} {xs ys : List Int} {p : Addr} (hc : w.cell? p = some x) (hx : SlI w x xs) (hy : SlI w y ys) : Calls Tryz.prog 51 #[y, .pointer (some p)] w (Ret w (.bool (decide (xs = ys)))) := by
  refine f51_calls _ _ ⟨_, hc, (equal_c hx hy).mono ?_⟩
  rintro e w2 ⟨rfl, g2⟩
  exact ⟨_, rfl, rfl, g2⟩
theorem sure1_c {w : World} {u lv : Value} {xs : List Int} {L : List (List Int)} {p : Addr} (hu : SlI w u xs) (hc : w.cell? p = some lv) (hl : SlL w lv L) : Calls Tryz.prog 50 #[u, .pointer (some p)] w (Ret w (.bool (!decide (xs ∈ L)))) := by
  refine f50_calls _ _ ⟨hu.one, fun w1 hw1 => ⟨_, (alloc_grow hw1).cell hc, ?_⟩⟩
  have g1 := alloc_grow hw1
  refine (containsL_c (p := fun y => decide (xs = y)) (hl.gr g1) ⟨51, #[], _, rfl, rfl, fun y hy w' v gg hv => ?_⟩).mono ?_
  · rw [app1]
    exact sure2_c (gg.cell (alloc_cell0 hw1)) (hu.grow (g1.trans gg)) hv
  · rintro e w3 ⟨rfl, g3⟩
    refine ⟨_, rfl, ?_, g1.trans g3⟩
    have : L.any (fun y => decide (xs = y)) = decide (xs ∈ L) := by
      rw [Bool.eq_iff_iff, List.any_eq_true, decide_eq_true_eq]
      constructor
      · rintro ⟨y, hy, h⟩
        rw [decide_eq_true_eq] at h
        exact h ▸ hy
      · exact fun h => ⟨xs, h, decide_eq_true rfl⟩
    rw [this]
/-- What the first k repairs have in common. -/
def sureK (h : List Int) (b L : List Atm) (R : List Nat) (k : Nat) : List (List Int) := if k = 0 then [] else (rowM h b L (R.getD 0 0)).filter fun x => (R.take k).all fun m => decide (x ∈ rowM h b L m)
def sureR (s h : List Int) (b L : List Atm) : List (List Int) := sureK h b L (allR (klS s) L) (allR (klS s) L).length
theorem sureK_one {h : List Int} {b L : List Atm} {R : List Nat} (hR : 0 < R.length) : sureK h b L R 1 = rowM h b L R[0] := by
  have e : R.getD 0 0 = R[0] := by simp [List.getD, hR]
  have e2 : R.take 1 = [R[0]] := by rw [List.take_succ_eq_append_getElem hR]; simp
  rw [sureK, if_neg (by decide), e, e2]
  refine List.filter_eq_self.2 fun x hx => ?_
  simp [hx]
theorem sureK_succ {h : List Int} {b L : List Atm} {R : List Nat} {k : Nat} (hk0 : k ≠ 0) (hk : k < R.length) : sureK h b L R (k + 1) = (sureK h b L R k).filter fun x => !!decide (x ∈ rowM h b L R[k]) := by
  rw [sureK, sureK, if_neg (by omega), if_neg hk0, List.filter_filter]
  refine List.filter_congr fun x _ => ?_
  rw [List.take_succ_eq_append_getElem hk, List.all_append, Bool.not_not]
  simp [Bool.and_comm]
section
variable {w : World} {sv fv hv bv : Value} {s h : List Int} {b L : List Atm}
theorem sure_c (hs : SlI w sv s) (hl : SlA w fv L) (hh : SlI w hv h) (hb : SlA w bv b) (hT : Tab w) :
    Calls Tryz.prog 21 #[sv, fv, .agg #[hv, bv]] w fun e w' => ∃ v, e = .returned (.tuple #[v, .int .i64 (askE false s h b L)]) ∧ SlL w' v (if askE false s h b L = 0 then sureR s h b L else []) ∧ Grow w w' := by
  refine f21_calls _ _ _ ⟨_, rfl, fun w1 hw1 => ?_⟩
  have g1 := alloc_grow hw1
  have hQ := RecV.new hw1
  refine ⟨[_, _], rfl, hQ.all, (ask_c (hs.grow g1) (hl.gr g1) (hh.grow g1) (hb.gr g1)).mono ?_⟩
  rintro e w4 ⟨x, y, rfl, hx, hy, hxy, g4⟩
  refine ⟨_, _, rfl, fun w8 hw8 => RecV.init (cs := [x, y]) hw8 rfl (by simp [hx.2, hy.2]) fun w9 g9 s9 hB => ?_⟩
  have g09 := (g1.trans g4).trans g9
  refine condP_i (fun hne => ?_) fun heq => ?_
  · have hne : ¬ askE false s h b L = 0 := by simpa using hne
    exact ⟨_, rfl, by rw [if_neg hne]; exact SlX.nil _, g09⟩
  have h0 : askE false s h b L = 0 := by simpa using heq
  obtain ⟨rfl, rfl⟩ := hxy h0
  have hR : okR s L = true := by
    cases hr : okR s L with
    | true => rfl
    | false => rw [askE, hr] at h0; simp at h0
  have hO : (askO h b L).1 = 0 := by
    unfold askE at h0
    split at h0
    · exact h0
    · cases h0
  have h12 := (okR_out hR).2.1
  refine ⟨[_, _], rfl, hB.all, (repairs_c (hs.grow g09) (hl.gr g09) hR).mono ?_⟩
  rintro e w12 ⟨rv, rfl, hrv, g12⟩
  have g012 := g09.trans g12
  refine ⟨_, rfl, hrv.ln ?_⟩
  rw [natI_len, if_pos h0]
  obtain ⟨R, hRR⟩ : ∃ R, R = allR (klS s) L := ⟨_, rfl⟩
  have hRl : R.length ≤ 4096 := by rw [hRR]; exact allR_len (klS s) L h12
  rw [← hRR] at hrv ⊢
  refine ⟨fun out t w' => ∃ k : Nat, t = k ∧ k ≤ R.length ∧ OwnX (fun _ => False) 1 repI w' w12.heap.size 22 out (sureK h b L R k) ∧ Grow w12 w', fun _ t _ => R.length - t.toNat, ⟨0, rfl, by omega, OwnX.nil _ _ _, Grow.refl _⟩, ?_⟩
  rintro - out t w23 ⟨k, rfl, hk, hout, g23⟩
  have g1223 := g23
  refine condD (fun hlt => ?_) fun hge => ?_
  · have hkl : k < R.length := by omega
    refine (hrv.grow g23).rd rfl (by rw [natI_len]; exact hkl) ?_
    rw [natI_get hkl]
    intro d
    have gd : Grow w23 (dr w23 d.1) := (Grow.refl w23).dr d.1
    have hm : R[k] < 2 ^ L.length := by
      have : R[k] ∈ allR (klS s) L := by rw [← hRR]; exact List.getElem_mem hkl
      exact (mem_allR.1 this).1
    have gD := (g012.trans g23).trans gd
    have hBD := ((hB.grow g12).grow g23).grow gd
    have hQD := (((hQ.grow (g4.trans g9)).grow g12).grow g23).grow gd
    have hs23 := g23.size
    have leaf : ∀ {w39 X lv}, Grow w23 w39 → OwnX (fun b => b < w23.heap.size) 1 repI w39 w23.heap.size 22 lv (rowM h b L R[k]) → w39.cell? ⟨X, 0, none⟩ = some lv → w23.heap.size ≤ X → condP (decide ((k : Int) = (0 : Int))) (∃ t_v40 : Value, w39.cell? ⟨X, 0, none⟩ = some t_v40 ∧ inR ((k : Int) + 1) ∧ ((∃ k' : Nat, (k : Int) + 1 = k' ∧ k' ≤ R.length ∧ OwnX (fun _ => False) 1 repI w39 w12.heap.size 22 t_v40 (sureK h b L R k') ∧ Grow w12 w39) ∧ R.length - Int.toNat ((k : Int) + 1) < R.length - Int.toNat (k : Int)))
        (Calls Tryz.prog 49 #[out, (Value.func (Fn.func 50) #[] #[(Value.pointer (some ⟨X, 0, none⟩))])] w39 fun e_v42 w_v41 => ∃ t_v43 : Value, e_v42 = .returned t_v43 ∧ inR ((k : Int) + 1) ∧ ((∃ k' : Nat, (k : Int) + 1 = k' ∧ k' ≤ R.length ∧ OwnX (fun _ => False) 1 repI w_v41 w12.heap.size 22 t_v43 (sureK h b L R k') ∧ Grow w12 w_v41) ∧ R.length - Int.toNat ((k : Int) + 1) < R.length - Int.toNat (k : Int))) := fun {w39 X lv} g39 hlv hc hX => by
      refine condD (fun hz => ?_) fun hz => ?_
      · have hz : k = 0 := by omega
        subst hz
        refine ⟨lv, hc, by unfold inR; omega, ⟨1, rfl, by omega, ?_, g23.trans g39⟩, by omega⟩
        rw [sureK_one hkl]
        exact (OwnX.base hlv hs23).weaken fun _ h => h.elim
      · have hz : k ≠ 0 := by omega
        have hout39 := hout.grow g39
        refine (deleteL_c (p := fun x => !decide (x ∈ rowM h b L R[k])) hout39 ⟨50, #[], _, rfl, rfl, fun x hx w' u hfr hu => ?_⟩).mono ?_
        · rw [app1]
          have hob : ∀ bb, out.ownBlock = some bb → bb < w23.heap.size := fun bb hbb => (hout.lt hbb).2
          have hfr2 : Fr (fun q => some q = out.ownBlock) w39 w' := hfr.mono fun q _ e => e.elim (fun h => h.elim) id
          refine sure1_c hu (hfr2.cell hc fun e => ?_) ?_
          · have := hob _ e.symm
            dsimp only at this
            omega
          · exact OwnX.slX (OwnX.fr hlv hfr2 (fun bb hbb => hob bb hbb.symm) fun bb hbb e => by
              have h1 := (hlv.lt hbb).1
              have h2 := hob bb e.symm
              omega)
        · rintro e w41 ⟨v', rfl, hv', hf41, _⟩
          refine ⟨_, rfl, by unfold inR; omega, ⟨k + 1, by omega, by omega, ?_, (g23.trans g39).fr hf41 fun i hi e => ?_⟩, by omega⟩
          · rw [sureK_succ hz hkl]
            exact hv'
          · have := (hout.lt e.symm).1
            omega
    have ch : ∀ {E} {Q : Ending → World → Prop}, Grow (dr w23 d.1) E → (∀ v w', Grow E w' → SlA w' v (ofM L R[k]) → Q (.returned v) w') → Calls Tryz.prog 48 #[.agg #[x, y], .int .i64 (R[k] : Int)] E Q := fun g0 hq => (chosen_c (hl.gr (gD.trans g0)) h12 hm (hT.grow (gD.trans g0))).mono (by
      rintro e w' ⟨v, rfl, hv, g⟩
      exact hq v w' g hv)
    have rs : ∀ {E v} {Q : Ending → World → Prop}, Grow (dr w23 d.1) E → SlA E v (ofM L R[k]) → (∀ lv w', Grow E w' → OwnRs E.heap.size w' lv (rowM h b L R[k]) → Q (.returned (.tuple #[lv, .int .i64 0])) w') → Calls Tryz.prog 27 #[.agg #[hv, bv], v] E Q := fun g0 hv hq => (results_o (hh.grow (gD.trans g0)) (hb.gr (gD.trans g0)) hv).mono (by
      rintro e w' ⟨lv, rfl, ho, g⟩
      rw [resO_ofM hO] at ho ⊢
      exact hq lv w' g ho)
    have hdz : (dr w23 d.1).heap.size = w23.heap.size := rfl
    refine ⟨[_, _], rfl, hQD.all, [_, _], rfl, hBD.all, ⟨ch (Grow.refl _) fun v w31 g31 hv31 => ⟨v, rfl, g31, rs g31 hv31 fun lv w34 g34 ho34 => ⟨_, _, rfl, g34, fun w38 hw38 => ?_⟩, fun w44 hw44 => ?_⟩, fun w54 hw54 => ?_⟩⟩
    · -- the variable last
      have g38 := alloc_grow hw38
      have hbx := Box.new hw38
      have hs31 := g31.size
      have hs34 := g34.size
      refine ⟨OwnX.one ho34, ⟨_, hbx.cell⟩, hbx.free, fun w39 hw39 => ?_⟩
      have g3439 : Grow w34 w39 := g38.fr (set_fr hw39) fun i hi e => by have e : i = w34.heap.size := e; omega
      refine leaf (((gd.trans g31).trans g34).trans g3439) ?_ (hbx.set hw39).cell (by omega)
      exact (OwnX.base (ho34.grow g3439) (by omega)).weaken fun b hb => by
        have hb : b < w23.heap.size := hb
        show b < w31.heap.size
        omega
    · -- the variable before the results
      have g44 := alloc_grow hw44
      have s44 := alloc_size hw44
      have hbx := Box.new hw44
      have hs31 := g31.size
      refine rs (g31.trans g44) (hv31.gr g44) fun lv w45 g45 ho45 => ⟨_, _, rfl, g45, OwnX.one ho45, ⟨_, (hbx.grow g45).cell⟩, (hbx.grow g45).free, fun w49 hw49 => ?_⟩
      have f49 := set_fr hw49
      have g3149 : Grow w31 w49 := (g44.trans g45).fr f49 fun i hi e => by have e : i = w31.heap.size := e; omega
      refine leaf ((gd.trans g31).trans g3149) ?_ ((hbx.grow g45).set hw49).cell (by omega)
      refine (OwnX.base (OwnX.fr ho45 f49 (fun bb e => ?_) fun bb hbb e => ?_) (by omega)).weaken fun b hb => ?_
      · have e : bb = w31.heap.size := e
        show bb < w44.heap.size
        omega
      · have e : bb = w31.heap.size := e
        have := (ho45.lt hbb).1
        omega
      · have hb : b < w23.heap.size := hb
        show b < w44.heap.size
        omega
    · -- the variable first
      have g54 := alloc_grow hw54
      have s54 := alloc_size hw54
      have hbx := Box.new hw54
      rw [hdz] at s54 hbx ⊢
      refine ch g54 fun v w55 g55 hv55 => ⟨v, rfl, g55, rs (g54.trans g55) hv55 fun lv w58 g58 ho58 => ⟨_, _, rfl, g58, OwnX.one ho58, ⟨_, ((hbx.grow g55).grow g58).cell⟩, ((hbx.grow g55).grow g58).free, fun w62 hw62 => ?_⟩⟩
      have hs55 := g55.size
      have f62 := set_fr hw62
      have g2362 : Grow w23 w62 := (((gd.trans g54).trans g55).trans g58).fr f62 fun i hi e => by have e : i = w23.heap.size := e; omega
      refine leaf g2362 ?_ (((hbx.grow g55).grow g58).set hw62).cell (Nat.le_refl _)
      refine (OwnX.base (OwnX.fr ho58 f62 (fun bb e => ?_) fun bb hbb e => ?_) (by omega)).weaken fun b hb => ?_
      · have e : bb = w23.heap.size := e
        show bb < w55.heap.size
        omega
      · have e : bb = w23.heap.size := e
        have := (ho58.lt hbb).1
        omega
      · have hb : b < w23.heap.size := hb
        show b < w55.heap.size
        omega
  · have hkl : k = R.length := by omega
    subst hkl
    refine ⟨out, by rw [h0], ?_, g012.trans g23⟩
    unfold sureR
    rw [← hRR]
    exact OwnX.slX hout
end
end Go.Proofs.YtmjpnfapjcfejaaGreatDoor

/- Contracts: Sure, by the reference; equal rows. No condition. -/
namespace Go.Proofs.YtmjpnfapjcfejaaGreatDoor
open Go Go.RowKit VC
set_option linter.unusedSimpArgs false
set_option linter.unusedVariables false

theorem mem_sureR {s h : List Int} {b L : List Atm} (hne : allR (klS s) L ≠ []) {x : List Int} : x ∈ sureR s h b L ↔ ∀ m ∈ allR (klS s) L, x ∈ rowM h b L m := by
  have hpos := List.length_pos_iff.2 hne
  have e : (allR (klS s) L).getD 0 0 = (allR (klS s) L)[0] := by simp [List.getD, hpos]
  unfold sureR sureK
  rw [if_neg (by omega), List.take_length, List.mem_filter, List.all_eq_true, e]
  constructor
  · exact fun h m hm => of_decide_eq_true (h.2 m hm)
  · exact fun h => ⟨h _ (List.getElem_mem hpos), fun m hm => decide_eq_true (h m hm)⟩
/-! ## Equal rows -/
theorem rows7_c {w : World} {u v : Value} {L M : List (List Int)} (hx : SlL w u L) (hy : SlL w v M) : Calls Tryz.prog 28 #[u, v] w (Ret w (.bool (decide (L = M)))) := by
  refine f28_calls _ _ ?_
  have main : Calls Tryz.prog 61 #[u, v, .func (.func 25) #[] #[]] w (Ret w (.bool (decide (L = M)))) := by
    refine f61_calls _ _ _ ?_
    have h1 := SlX.len_le hx
    have h2 := SlX.len_le hy
    refine SlX.ln hx (SlX.ln hy (condP_i (fun h => ?_) fun h => ?_))
    · refine ⟨?_, Grow.refl w⟩
      have : L ≠ M := fun e => by subst e; simp at h
      rw [decide_eq_false this]
    have hl : L.length = M.length := by simp at h; omega
    refine SlX.ln hx ⟨fun t w' => ∃ k : Nat, t = k ∧ k ≤ L.length ∧ Grow w w' ∧ L.take k = M.take k, fun t _ => L.length - t.toNat, ⟨0, rfl, by omega, Grow.refl w, by simp⟩, ?_⟩
    rintro - t w1 ⟨k, rfl, hk, hw, htk⟩
    refine condD (fun hlt => ?_) (fun hge => ?_)
    · have hkl : k < L.length := by omega
      refine SlL.rd1 (hx.gr hw) rfl hkl fun a ha => SlL.rd1 (hy.gr hw) rfl (by omega) fun c hc => ⟨_, _, _, rfl, by kernel_rfl, ?_⟩
      rw [app2]
      refine (equal_c ha hc).mono ?_
      rintro e w2 ⟨rfl, g2⟩
      refine ⟨_, rfl, condP_i (fun h => ?_) fun h => ?_⟩
      · have h : ¬ L[k] = M[k] := by simpa using h
        refine ⟨?_, hw.trans g2⟩
        have : L ≠ M := fun e => h (by subst e; rfl)
        rw [decide_eq_false this]
      · have he : L[k] = M[k] := by simpa using h
        refine ⟨by unfold inR; omega, ⟨k + 1, by omega, by omega, hw.trans g2, ?_⟩, by dsimp only; omega⟩
        rw [List.take_succ_eq_append_getElem hkl, List.take_succ_eq_append_getElem (by omega), htk, he]
    · refine ⟨?_, hw⟩
      have : k = L.length := by omega
      subst this
      rw [List.take_length, hl, List.take_length] at htk
      rw [decide_eq_true htk]
  refine main.mono ?_
  rintro e w' ⟨rfl, g⟩
  exact ⟨_, rfl, rfl, g⟩
section
variable {w : World} {sv fv hv bv : Value} {s h : List Int} {b L : List Atm}
end
end Go.Proofs.YtmjpnfapjcfejaaGreatDoor

/- Why a question has no answer; the arguments of a statement, one after the other. No condition. -/
namespace Go.Proofs.YtmjpnfapjcfejaaGreatDoor
open Go Go.RowKit VC
set_option linter.unusedSimpArgs false
set_option linter.unusedVariables false

section
variable {w : World} {sv fv hv bv : Value} {s h : List Int} {b L : List Atm}
/-- few(s), Facts(facts), Of(q), the loads taken first. -/
theorem argsG {aq : Addr} (hs : SlI w sv s) (hl : SlA w fv L) (hh : SlI w hv h) (hb : SlA w bv b) (hQ : ∀ {E}, Grow w E → ∀ (j : Nat) (v : Value), [hv, bv][j]? = some v → E.cell? (Addr.add aq j) = some v) {F : Value → Value → Value → World → Prop}
    (hk : ∀ s1 f1 h1 b1 w', SlI w' s1 (s.take 9) → SlA w' f1 (trF L) → SlI w' h1 (h.take 9) → SlA w' b1 (trB b) → Grow w w' → F s1 f1 (.agg #[h1, b1]) w') :
    ∀ m_v3 : DM w, ∃ cs_v4 : List Value, cs_v4.length = 2 ∧ (∀ (j : Nat) (v : Value), cs_v4[j]? = some v → (dr w m_v3.1).cell? (Addr.add aq j) = some v) ∧ Calls Tryz.prog 12 #[sv] (dr w m_v3.1) fun e_v6 w_v5 => ∃ t_v7 : Value, e_v6 = .returned t_v7 ∧ Grow (dr w m_v3.1) w_v5 ∧ Calls Tryz.prog 13 #[fv] w_v5 fun e_v9 w_v8 => ∃ t_v10 : Value, e_v9 = .returned t_v10 ∧ Grow w_v5 w_v8 ∧ Calls Tryz.prog 14 #[(Value.agg cs_v4.toArray)] w_v8 fun e_v12 w_v11 => ∃ t_v13 : Value, e_v12 = .returned t_v13 ∧ Grow w_v8 w_v11 ∧ F t_v7 t_v10 t_v13 w_v11 := by
  intro d
  have gd : Grow w (dr w d.1) := (Grow.refl w).dr d.1
  refine ⟨[_, _], rfl, hQ gd, (few7_c (hs.grow gd)).mono ?_⟩
  rintro e w5 ⟨s1, rfl, o1, g5⟩
  refine ⟨_, rfl, g5, (factsS_c (hl.gr (gd.trans g5))).mono ?_⟩
  rintro e w8 ⟨f1, rfl, o2, g8⟩
  refine ⟨_, rfl, g8, (ofS_c (hh.grow ((gd.trans g5).trans g8)) (hb.gr ((gd.trans g5).trans g8))).mono ?_⟩
  rintro e w11 ⟨h1, b1, rfl, o3, o4, g11⟩
  exact ⟨_, rfl, g11, hk _ _ _ _ _ ((Own.slI o1).grow (g8.trans g11)) (o2.gr g11) o3 o4 (((gd.trans g5).trans g8).trans g11)⟩
end
end Go.Proofs.YtmjpnfapjcfejaaGreatDoor

/- Questions answered atom by atom, with numbers for the variables that are known (0: none): what the rule says, and that it says whether a question is certain. Of no program. No condition. -/
namespace Go.Proofs.YtmjpnfapjcfejaaGreatDoor
open VC
set_option linter.unusedSimpArgs false
set_option linter.unusedVariables false

/-! ## Numbers for variables -/
def mg (m : List Int) (x : Nat) : Int := m.getD x 0
def domM (m : List Int) (x : Nat) : Prop := mg m x ≠ 0
def goneK (m : List Int) (k : Nat) : Nat := (List.range k).foldl (fun s x => if mg m x ≠ 0 then s ||| 2 ^ x else s) 0
def goneN (m : List Int) : Nat := goneK m 8
theorem goneK_succ (m : List Int) (k : Nat) : goneK m (k + 1) = if mg m k ≠ 0 then goneK m k ||| 2 ^ k else goneK m k := by
  unfold goneK
  rw [List.range_succ, List.foldl_append]
  rfl
theorem goneK_bit {m : List Int} {x : Nat} : ∀ k, (goneK m k).testBit x = true ↔ x < k ∧ mg m x ≠ 0
  | 0 => by simp [goneK]
  | k + 1 => by
    rw [goneK_succ]
    have ih := goneK_bit (m := m) (x := x) k
    by_cases h : mg m k ≠ 0
    · rw [if_pos h, bit_or_pow, ih]
      constructor
      · rintro (h1 | rfl)
        · exact ⟨by omega, h1.2⟩
        · exact ⟨by omega, h⟩
      · rintro ⟨h1, h2⟩
        by_cases e : x = k
        · exact .inr e
        · exact .inl ⟨by omega, h2⟩
    · rw [if_neg h, ih]
      constructor
      · rintro ⟨h1, h2⟩
        exact ⟨by omega, h2⟩
      · rintro ⟨h1, h2⟩
        by_cases e : x = k
        · subst e
          exact absurd h2 h
        · exact ⟨by omega, h2⟩
theorem mg_out {m : List Int} (hm : m.length = 8) {x : Nat} (h : mg m x ≠ 0) : x < 8 := by
  rcases Nat.lt_or_ge x 8 with h1 | h1
  · exact h1
  · exact absurd (by simp [mg, List.getD, List.getElem?_eq_none (by omega : m.length ≤ x)]) h
theorem goneN_bit {m : List Int} (hm : m.length = 8) {x : Nat} : (goneN m).testBit x = true ↔ domM m x := by
  rw [goneN, goneK_bit]
  exact ⟨fun h => h.2, fun h => ⟨mg_out hm h, h⟩⟩
/-- The variables of an atom, and of its key, that have no number. -/
def VM (m : List Int) (a : Atm) : Nat := nSub (varsL a.2) (goneN m)
def KM (kl : Int → Nat) (m : List Int) (a : Atm) : Nat := nSub (varsL (a.2.take (kl a.1))) (goneN m)
section
variable {kl : Int → Nat} {atoms : List Atm} {m : List Int}
theorem getD_map {α : Type} (f : α → Nat) {l : List α} {i : Nat} (hi : i < l.length) : (l.map f).getD i 0 = f l[i] := by simp [List.getD, hi]
theorem vk_of (hm : m.length = 8) (hA : ∀ a ∈ atoms, okA a = true) : VK_ kl atoms (domM m) (atoms.map (VM m)) (atoms.map (KM kl m)) := by
  refine ⟨by simp, by simp, fun i hi x => ?_, fun i hi x => ?_, fun a ha x hx => ?_⟩
  · rw [getD_map _ hi]
    unfold VM
    rw [nSub_bit, Bool.and_eq_true, Bool.not_eq_true', ← Bool.not_eq_true, goneN_bit hm, varsL_bit]
  · rw [getD_map _ hi]
    unfold KM
    rw [nSub_bit, Bool.and_eq_true, Bool.not_eq_true', ← Bool.not_eq_true, goneN_bit hm, varsL_bit]
    rfl
  · have := (okA_iff.1 (hA a ha)).2.2.2.2 _ hx
    omega
/-! ## The atom that is answered first -/
def freeN (V K : List Nat) : Nat := ((List.range V.length).find? fun g => (List.range V.length).all fun f => !attN V K f g).getD V.length
def freeA (kl : Int → Nat) (atoms : List Atm) (m : List Int) : Nat := freeN (atoms.map (VM m)) (atoms.map (KM kl m))
theorem freeN_spec {V K : List Nat} {g0 : Nat} (hg : g0 < V.length) (h : ∀ f, f < V.length → attN V K f g0 = false) : freeN V K < V.length ∧ (∀ f, f < V.length → attN V K f (freeN V K) = false) ∧ ∀ j, j < freeN V K → ∃ f, f < V.length ∧ attN V K f j = true := by
  unfold freeN
  cases hf : (List.range V.length).find? fun g => (List.range V.length).all fun f => !attN V K f g with
  | none =>
    have := List.find?_eq_none.1 hf g0 (List.mem_range.2 hg)
    refine absurd ?_ this
    rw [List.all_eq_true]
    intro f hf
    rw [h f (List.mem_range.1 hf)]
    rfl
  | some g =>
    have h1 := List.find?_some hf
    have h2 := List.mem_of_find?_eq_some hf
    rw [List.all_eq_true] at h1
    refine ⟨List.mem_range.1 h2, fun f hf => by simpa using h1 f (List.mem_range.2 hf), fun j hj => ?_⟩
    have hj : j < g := hj
    have hgl := List.mem_range.1 h2
    obtain ⟨_, as1, bs1, hsplit, hno⟩ := List.find?_eq_some_iff_append.1 hf
    have hlen : as1.length = g := by
      have h3 : (List.range V.length)[as1.length]? = some g := by rw [hsplit]; simp
      have h4 := (List.getElem?_eq_some_iff.1 h3)
      obtain ⟨h5, h6⟩ := h4
      rw [List.getElem_range] at h6
      exact h6
    have hja : j ∈ as1 := by
      have h3 : (List.range V.length)[j]? = some j := by rw [List.getElem?_range (by omega)]
      rw [hsplit, List.getElem?_append_left (by omega)] at h3
      exact List.mem_of_getElem? h3
    have := hno j hja
    have h7 : ¬ ((List.range V.length).all fun f => !attN V K f j) = true := by simpa using this
    refine Classical.byContradiction fun hn => h7 ?_
    rw [List.all_eq_true]
    intro f hf
    cases hc : attN V K f j with
    | false => rfl
    | true => exact absurd ⟨f, List.mem_range.1 hf, hc⟩ hn
/-- Of atoms without a cycle of attacks: one that nothing attacks. -/
theorem freeA_spec (hm : m.length = 8) (hA : ∀ a ∈ atoms, okA a = true) (hpl : PlainA atoms) (hnd : atoms.Nodup) (hac : Acy kl atoms (domM m)) (hne : atoms ≠ []) : ∃ h : freeA kl atoms m < atoms.length, (∀ F ∈ atoms, ¬ Att kl atoms (domM m) F atoms[freeA kl atoms m]) ∧ (∀ f, f < atoms.length → attN (atoms.map (VM m)) (atoms.map (KM kl m)) f (freeA kl atoms m) = false) ∧ ∀ j, j < freeA kl atoms m → ∃ f, f < atoms.length ∧ attN (atoms.map (VM m)) (atoms.map (KM kl m)) f j = true := by
  have hvk := vk_of (kl := kl) hm hA
  obtain ⟨F0, hF0, hun⟩ := hac.free hne
  obtain ⟨g0, hg0, rfl⟩ := List.getElem_of_mem hF0
  have hl : (atoms.map (VM m)).length = atoms.length := by simp
  have h := freeN_spec (V := atoms.map (VM m)) (K := atoms.map (KM kl m)) (g0 := g0) (by rw [hl]; exact hg0) fun f hf => by
    rw [hl] at hf
    rw [← Bool.not_eq_true, attN_iff hvk hpl hnd hf hg0]
    exact hun _ (List.getElem_mem hf)
  rw [hl] at h
  obtain ⟨h1, h2, h3⟩ := h
  refine ⟨h1, fun F hF ha => ?_, h2, h3⟩
  obtain ⟨f, hf, rfl⟩ := List.getElem_of_mem hF
  have := h2 f hf
  rw [← Bool.not_eq_true, attN_iff hvk hpl hnd hf h1] at this
  exact this ha
end
/-! ## An atom and a fact -/
def fitP (m : Option (List Int)) (p : Int × Int) : Option (List Int) := m.bind fun m => if p.1 < 0 then (if p.2 = -p.1 then some m else none) else if mg m p.1.toNat ≠ 0 ∧ mg m p.1.toNat ≠ p.2 then none else some (m.set p.1.toNat p.2)
def fitR (xs ys m : List Int) : Option (List Int) := (xs.zip ys).foldl fitP (some m)
theorem fit_none : ∀ l : List (Int × Int), l.foldl fitP none = none
  | [] => rfl
  | p :: l => fit_none l
theorem fitR_nil (ys m : List Int) : fitR [] ys m = some m := rfl
theorem fitR_cons (x y : Int) (xs ys m : List Int) : fitR (x :: xs) (y :: ys) m = (fitP (some m) (x, y)).bind (fitR xs ys) := by
  show (xs.zip ys).foldl fitP (fitP (some m) (x, y)) = _
  cases fitP (some m) (x, y) with
  | none => exact fit_none _
  | some m1 => rfl
theorem mg_set {m : List Int} {x y : Nat} {z : Int} (hx : x < m.length) : mg (m.set x z) y = if y = x then z else mg m y := by
  unfold mg
  simp only [List.getD_eq_getElem?_getD, List.getElem?_set]
  by_cases h : x = y
  · subst h
    simp [hx]
  · rw [if_neg h, if_neg (fun e => h e.symm)]
theorem fitR_sound : ∀ {xs ys m m' : List Int}, (∀ x ∈ xs, x ≤ 7) → (∀ y ∈ ys, 1 ≤ y) → m.length = 8 → xs.length ≤ ys.length → fitR xs ys m = some m' →
    m'.length = 8 ∧ (∀ x, mg m x ≠ 0 → mg m' x = mg m x) ∧ xs.map (tV (mg m')) = ys.take xs.length ∧ ∀ x, mg m' x ≠ 0 ↔ mg m x ≠ 0 ∨ ((x : Nat) : Int) ∈ xs
  | [], ys, m, m', _, _, hm, _, h => by
    rw [fitR_nil] at h
    obtain rfl := Option.some.inj h
    exact ⟨hm, fun _ _ => rfl, rfl, fun x => by simp⟩
  | x :: xs, [], _, _, _, _, _, hl, _ => by simp at hl
  | x :: xs, y :: ys, m, m', hx, hy, hm, hl, h => by
    rw [fitR_cons] at h
    have hx0 := hx x (List.mem_cons_self ..)
    have hy0 := hy y (List.mem_cons_self ..)
    have step : ∀ m1, fitP (some m) (x, y) = some m1 → (m1.length = 8 ∧ (∀ z, mg m z ≠ 0 → mg m1 z = mg m z) ∧ (∀ z, mg m1 z ≠ 0 ↔ mg m z ≠ 0 ∨ (z : Int) = x)) ∧ ((x < 0 ∧ y = -x) ∨ (0 ≤ x ∧ mg m1 x.toNat = y)) := fun m1 h1 => by
      have h1 : (if x < 0 then (if y = -x then some m else none) else if mg m x.toNat ≠ 0 ∧ mg m x.toNat ≠ y then none else some (m.set x.toNat y)) = some m1 := h1
      by_cases hneg : x < 0
      · rw [if_pos hneg] at h1
        by_cases hyx : y = -x
        · rw [if_pos hyx] at h1
          obtain rfl := Option.some.inj h1
          refine ⟨⟨hm, fun _ _ => rfl, fun z => ?_⟩, .inl ⟨hneg, hyx⟩⟩
          constructor
          · exact .inl
          · rintro (h2 | h2)
            · exact h2
            · omega
        · rw [if_neg hyx] at h1; cases h1
      · rw [if_neg hneg] at h1
        by_cases hc : mg m x.toNat ≠ 0 ∧ mg m x.toNat ≠ y
        · rw [if_pos hc] at h1; cases h1
        · rw [if_neg hc] at h1
          obtain rfl := Option.some.inj h1
          have hxl : x.toNat < m.length := by omega
          refine ⟨⟨by rw [List.length_set]; exact hm, fun z hz => ?_, fun z => ?_⟩, .inr ⟨by omega, by rw [mg_set hxl, if_pos rfl]⟩⟩
          · rw [mg_set hxl]
            split
            · rename_i e
              subst e
              exact (Classical.byContradiction fun h => hc ⟨hz, h⟩ : mg m x.toNat = y).symm
            · rfl
          · rw [mg_set hxl]
            split
            · rename_i e
              subst e
              exact ⟨fun _ => .inr (by omega), fun _ => by omega⟩
            · rename_i e
              exact ⟨.inl, fun h => h.elim id fun h => absurd (by omega) e⟩
    cases h1 : fitP (some m) (x, y) with
    | none => rw [h1] at h; cases h
    | some m1 =>
      rw [h1] at h
      obtain ⟨⟨a1, a2, a3⟩, a4⟩ := step m1 h1
      obtain ⟨b1, b2, b3, b4⟩ := fitR_sound (fun z hz => hx z (List.mem_cons_of_mem _ hz)) (fun z hz => hy z (List.mem_cons_of_mem _ hz)) a1 (by simpa using hl) (show fitR xs ys m1 = some m' from h)
      refine ⟨b1, fun z hz => ?_, ?_, fun z => ?_⟩
      · rw [b2 z (by rw [a2 z hz]; exact hz), a2 z hz]
      · rw [List.map_cons, List.length_cons, List.take_succ_cons, b3]
        congr 1
        rcases a4 with ⟨c1, c2⟩ | ⟨c1, c2⟩
        · unfold tV
          rw [if_pos c1, c2]
        · unfold tV
          rw [if_neg (by omega), b2 _ (by rw [c2]; omega), c2]
      · rw [b4, a3, List.mem_cons, or_assoc]
theorem fitR_complete {ν : Nat → Int} : ∀ {xs ys m : List Int}, (∀ x ∈ xs, x ≤ 7) → m.length = 8 → (∀ x, mg m x ≠ 0 → ν x = mg m x) → xs.map (tV ν) = ys.take xs.length → ∃ m', fitR xs ys m = some m' ∧ ∀ x, mg m' x ≠ 0 → ν x = mg m' x
  | [], ys, m, _, _, hν, _ => ⟨m, rfl, hν⟩
  | x :: xs, [], _, _, _, _, h => by simp at h
  | x :: xs, y :: ys, m, hx, hm, hν, h => by
    rw [List.map_cons, List.length_cons, List.take_succ_cons, List.cons.injEq] at h
    obtain ⟨h1, h2⟩ := h
    have hx0 := hx x (List.mem_cons_self ..)
    have next : ∀ m1, m1.length = 8 → (∀ x, mg m1 x ≠ 0 → ν x = mg m1 x) → fitP (some m) (x, y) = some m1 → ∃ m', fitR (x :: xs) (y :: ys) m = some m' ∧ ∀ x, mg m' x ≠ 0 → ν x = mg m' x := fun m1 k1 k2 k3 => by
      rw [fitR_cons, k3]
      exact fitR_complete (fun z hz => hx z (List.mem_cons_of_mem _ hz)) k1 k2 h2
    unfold tV at h1
    by_cases hneg : x < 0
    · rw [if_pos hneg] at h1
      refine next m hm hν ?_
      show (if x < 0 then (if y = -x then some m else none) else if mg m x.toNat ≠ 0 ∧ mg m x.toNat ≠ y then none else some (m.set x.toNat y)) = some m
      rw [if_pos hneg, if_pos h1.symm]
    · rw [if_neg hneg] at h1
      have hxl : x.toNat < m.length := by omega
      refine next (m.set x.toNat y) (by rw [List.length_set]; exact hm) (fun z hz => ?_) ?_
      · rw [mg_set hxl] at hz ⊢
        split
        · rename_i e
          rw [e, h1]
        · rename_i e
          rw [if_neg e] at hz
          exact hν z hz
      · show (if x < 0 then (if y = -x then some m else none) else if mg m x.toNat ≠ 0 ∧ mg m x.toNat ≠ y then none else some (m.set x.toNat y)) = _
        rw [if_neg hneg, if_neg]
        rintro ⟨k1, k2⟩
        exact k2 ((hν _ k1).symm.trans h1)
theorem take_min' {α : Type} {ys : List α} {k n : Nat} (h : ys.length = n) : ys.take k = ys.take (min k n) := by
  rw [Nat.min_def]
  split
  · rfl
  · rw [List.take_of_length_le (by omega), List.take_of_length_le (by omega)]
/-! ## The rule -/
section
variable (kl : Int → Nat) (L : List Atm)
def rewR : Nat → List Atm → List Int → Bool
  | 0, _, _ => true
  | n + 1, atoms, m =>
    L.any fun f => decide (f.1 = (fa atoms (freeA kl atoms m)).1) && decide (f.2.length = (fa atoms (freeA kl atoms m)).2.length) && (fitR ((fa atoms (freeA kl atoms m)).2.take (kl (fa atoms (freeA kl atoms m)).1)) f.2 m).isSome &&
      L.all fun g => !decide (kF kl g = kF kl f) || (match fitR (fa atoms (freeA kl atoms m)).2 g.2 m with | none => false | some m' => rewR n (atoms.eraseIdx (freeA kl atoms m)) m')
variable {kl} {L}
theorem erase_mem {atoms : List Atm} (hnd : atoms.Nodup) {i : Nat} (hi : i < atoms.length) (a : Atm) : a ∈ atoms.eraseIdx i ↔ a ∈ atoms ∧ a ≠ atoms[i] := by
  rw [List.mem_eraseIdx_iff_getElem]
  constructor
  · rintro ⟨j, hj, hne, rfl⟩
    exact ⟨List.getElem_mem hj, fun e => hne (List.getElem_inj hnd |>.1 e)⟩
  · rintro ⟨h1, h2⟩
    obtain ⟨j, hj, rfl⟩ := List.getElem_of_mem h1
    exact ⟨j, hj, fun e => h2 (by subst e; rfl), rfl⟩
theorem Cert.congr {db atoms : List Atm} {D D' : Nat → Prop} {m m' : Nat → Int} (h : Cert kl db atoms D m) (hD : ∀ x, D' x → D x) (hD2 : ∀ x, D x → D' x) (hm : ∀ x, D x → m' x = m x) : Cert kl db atoms D' m' := fun r hr => by
  obtain ⟨θ, h1, h2⟩ := h r hr
  exact ⟨θ, fun x hx => (h1 x (hD x hx)).trans (hm x (hD x hx)).symm, h2⟩
theorem Acy.congr {atoms : List Atm} {D D' : Nat → Prop} (h : Acy kl atoms D) (hD : ∀ x, D' x ↔ D x) : Acy kl atoms D' := by
  have : D' = D := funext fun x => propext (hD x)
  rw [this]
  exact h
theorem rew_cert (hF : ∀ f ∈ L, okF f = true) (hlen : ∀ f ∈ L, ∀ g ∈ L, f.1 = g.1 → f.2.length = g.2.length) : ∀ (n : Nat) (atoms : List Atm) (m : List Int), atoms.length = n → PlainA atoms → atoms.Nodup → (∀ a ∈ atoms, okA a = true) → m.length = 8 → Acy kl atoms (domM m) → (rewR kl L n atoms m = true ↔ Cert kl L atoms (domM m) (mg m)) := by
  intro n
  induction n with
  | zero =>
    intro atoms m hn _ _ _ _ _
    have := List.length_eq_zero_iff.1 hn
    subst this
    exact ⟨fun _ r _ => ⟨mg m, fun _ _ => rfl, fun a ha => by cases ha⟩, fun _ => rfl⟩
  | succ n ih =>
    intro atoms m hn hpl hnd hA hm hac
    obtain ⟨hi, hun, -, -⟩ := freeA_spec hm hA hpl hnd hac (fun e => by subst e; simp at hn)
    rw [rewR]
    revert hi hun
    generalize freeA kl atoms m = i
    intro hi hun
    rw [fa_get hi]
    obtain ⟨F0, eF⟩ : ∃ F0, F0 = atoms[i] := ⟨_, rfl⟩
    have hF0 : F0 ∈ atoms := by rw [eF]; exact List.getElem_mem hi
    have hrest := erase_mem hnd hi
    rw [← eF] at hun hrest ⊢
    have oF := okA_iff.1 (hA F0 hF0)
    have hx7 : ∀ x ∈ F0.2, x ≤ 7 := fun x hx => (oF.2.2.2.2 x hx).2
    have ys1 : ∀ f ∈ L, ∀ y ∈ f.2, 1 ≤ y := fun f hf y hy => ((okF_iff.1 (hF f hf)).2.2.2.2 y hy).1
    have ihm : ∀ m', m'.length = 8 → (∀ x, domM m' x ↔ varU (domM m) F0 x) → (rewR kl L n (atoms.eraseIdx i) m' = true ↔ Cert kl L (atoms.eraseIdx i) (domM m') (mg m')) := fun m' hm' hd => by
      refine ih _ m' (by rw [List.length_eraseIdx, if_pos hi]; omega) (fun a ha b hb e => hpl a ((hrest a).1 ha).1 b ((hrest b).1 hb).1 e) (hnd.sublist (List.eraseIdx_sublist _ _)) (fun a ha => hA a ((hrest a).1 ha).1) hm' ?_
      exact (hac.sub hrest).congr hd
    rw [List.any_eq_true]
    constructor
    · rintro ⟨f, hf, h⟩
      simp only [Bool.and_eq_true, decide_eq_true_eq, List.all_eq_true] at h
      obtain ⟨⟨⟨h1, h2⟩, -⟩, h3⟩ := h
      refine first_back hF0 hrest hf fun g hg hk => ?_
      have hg3 := h3 g hg
      rw [decide_eq_true hk] at hg3
      simp only [Bool.not_true, Bool.false_or] at hg3
      have hgl : g.2.length = F0.2.length := (hlen g hg f hf (kF_rel hk)).trans h2
      cases hfit : fitR F0.2 g.2 m with
      | none => rw [hfit] at hg3; cases hg3
      | some m' =>
        rw [hfit] at hg3
        obtain ⟨a1, a2, a3, a4⟩ := fitR_sound hx7 (ys1 g hg) hm (by omega) hfit
        have hd : ∀ x, domM m' x ↔ varU (domM m) F0 x := fun x => a4 x
        refine ⟨mg m', a2, ?_, ?_⟩
        · refine Prod.ext ((h1.symm.trans (kF_rel hk).symm)) ?_
          show F0.2.map _ = g.2
          rw [a3, List.take_of_length_le (by omega)]
        · exact ((ihm m' a1 hd).1 hg3).congr (fun x hx => (hd x).2 hx) (fun x hx => (hd x).1 hx) fun _ _ => rfl
    · intro hc
      obtain ⟨f, hf, ⟨ν, h1, h2⟩, h3⟩ := first_atom hpl hF0 hrest hun hc
      have hfr : f.1 = F0.1 := by rw [← h2]; rfl
      have hfa : F0.2.map (tV ν) = f.2 := congrArg Prod.snd h2
      refine ⟨f, hf, ?_⟩
      simp only [Bool.and_eq_true, decide_eq_true_eq, List.all_eq_true]
      refine ⟨⟨⟨hfr, by rw [← hfa, List.length_map]⟩, ?_⟩, fun g hg => ?_⟩
      · obtain ⟨m', e, _⟩ := fitR_complete (ν := ν) (xs := F0.2.take (kl F0.1)) (ys := f.2) (m := m) (fun x hx => hx7 x (List.mem_of_mem_take hx)) hm h1 (by
          rw [List.map_take, hfa, List.length_take, take_min' (by rw [← hfa, List.length_map])])
        rw [e]; rfl
      · by_cases hk : kF kl g = kF kl f
        · rw [decide_eq_true hk]
          simp only [Bool.not_true, Bool.false_or]
          obtain ⟨νg, k1, k2, k3⟩ := h3 g hg hk
          have hga : F0.2.map (tV νg) = g.2 := congrArg Prod.snd k2
          have hgl : g.2.length = F0.2.length := by rw [← hga, List.length_map]
          obtain ⟨m', e, k4⟩ := fitR_complete (ν := νg) (xs := F0.2) (ys := g.2) (m := m) hx7 hm k1 (by rw [hga, List.take_of_length_le (by omega)])
          obtain ⟨a1, a2, a3, a4⟩ := fitR_sound hx7 (ys1 g hg) hm (by omega) e
          have hd : ∀ x, domM m' x ↔ varU (domM m) F0 x := fun x => a4 x
          rw [e]
          exact (ihm m' a1 hd).2 (k3.congr (fun x hx => (hd x).1 hx) (fun x hx => (hd x).2 hx) fun x hx => (k4 x ((hd x).2 hx)).symm)
        · rw [decide_eq_false hk]
          rfl
end
end Go.Proofs.YtmjpnfapjcfejaaGreatDoor

/- Ears and elimination (Graham): what can be eliminated can be eliminated in every way. Of no program. No condition. -/
namespace Go.Proofs.YtmjpnfapjcfejaaGreatDoor
set_option linter.unusedVariables false

section
variable (vs : Nat → Nat → Prop)
/-- i is an ear of S: what it shares with any other is in k. -/
def Ear (S : Nat → Prop) (i k : Nat) : Prop := S i ∧ S k ∧ i ≠ k ∧ ∀ j, S j → j ≠ i → ∀ x, vs i x → vs j x → vs k x
/-- S without i. -/
def Wo (S : Nat → Prop) (i : Nat) : Nat → Prop := fun j => S j ∧ j ≠ i
/-- n atoms can be eliminated down to one. -/
inductive Elim : (Nat → Prop) → Nat → Prop
  | one {S : Nat → Prop} {i : Nat} : (∀ j, S j ↔ j = i) → Elim S 1
  | step {S : Nat → Prop} {i k n : Nat} : Ear vs S i k → Elim (Wo S i) n → Elim S (n + 1)
variable {vs}
theorem Elim.congr {S S' : Nat → Prop} {n : Nat} (h : Elim vs S n) (e : ∀ j, S j ↔ S' j) : Elim vs S' n := by
  have : S = S' := funext fun j => propext (e j)
  exact this ▸ h
/-- Atoms may be renamed, if what any two share stays. -/
theorem Elim.map {f : Nat → Nat} {S : Nat → Prop} {n : Nat} (h : Elim vs S n) : (∀ a b, S a → S b → f a = f b → a = b) → (∀ a b, S a → S b → a ≠ b → ∀ x, (vs a x ∧ vs b x ↔ vs (f a) x ∧ vs (f b) x)) → ∀ {S' : Nat → Prop}, (∀ j', S' j' ↔ ∃ j, S j ∧ f j = j') → Elim vs S' n := by
  induction h with
  | @one S i hi =>
    intro _ _ S' hS'
    refine .one (i := f i) fun j' => ?_
    rw [hS']
    constructor
    · rintro ⟨j, hj, rfl⟩
      rw [(hi j).1 hj]
    · rintro rfl
      exact ⟨i, (hi i).2 rfl, rfl⟩
  | @step S i k n he hr ih =>
    intro hinj hsh S' hS'
    obtain ⟨h1, h2, h3, h4⟩ := he
    refine .step (i := f i) (k := f k) ⟨(hS' _).2 ⟨i, h1, rfl⟩, (hS' _).2 ⟨k, h2, rfl⟩, fun e => h3 (hinj _ _ h1 h2 e), fun j' hj' hne x hx hy => ?_⟩ ?_
    · obtain ⟨j, hj, rfl⟩ := (hS' _).1 hj'
      have hji : j ≠ i := fun e => hne (by rw [e])
      have h5 := (hsh i j h1 hj (Ne.symm hji) x).2 ⟨hx, hy⟩
      exact ((hsh i k h1 h2 h3 x).1 ⟨h5.1, h4 j hj hji x h5.1 h5.2⟩).2
    · refine ih (fun a b ha hb => hinj a b ha.1 hb.1) (fun a b ha hb => hsh a b ha.1 hb.1) fun j' => ?_
      unfold Wo
      rw [hS']
      constructor
      · rintro ⟨⟨j, hj, rfl⟩, hne⟩
        exact ⟨j, ⟨hj, fun e => hne (by rw [e])⟩, rfl⟩
      · rintro ⟨j, ⟨hj, hne⟩, rfl⟩
        exact ⟨⟨j, hj, rfl⟩, fun e => hne (hinj _ _ hj h1 e)⟩
/-- What can be eliminated has an ear. -/
theorem Elim.ear {n : Nat} {S : Nat → Prop} (h : Elim vs S (n + 2)) : ∃ i k, Ear vs S i k := by
  cases h with
  | step h1 h2 => exact ⟨_, _, h1⟩
end
end Go.Proofs.YtmjpnfapjcfejaaGreatDoor
