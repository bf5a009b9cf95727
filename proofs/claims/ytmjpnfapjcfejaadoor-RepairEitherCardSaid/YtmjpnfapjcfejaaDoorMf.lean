/- Contracts: facts are cloned, and put together where neighbours are equal. No condition. -/
import Derived.Test.YtmjpnfapjcfejaaDoorMe
import Derived.Test.YtmjpnfapjcfejaaDoorVw
namespace Go.Proofs.YtmjpnfapjcfejaaDoor
open Go Go.RowKit VC
set_option linter.unusedSimpArgs false
set_option linter.unusedVariables false

/-- An own slice of facts whose arguments are older than block B. -/
abbrev OwnO (B0 : Nat) (w : World) (B : Nat) (v : Value) (l : List Atm) : Prop := OwnX (fun b => B0 ≤ b) 2 repA w B 57 v l
theorem repA_one {w : World} {cs : List Value} {a : Atm} (h : repA w cs a) : ∀ u ∈ cs, u.oneCell' = true := by
  obtain ⟨v, rfl, hv⟩ := h
  intro u hu
  simp at hu
  rcases hu with rfl | rfl
  · rfl
  · exact hv.one.2
theorem cloneF_c {w : World} {v : Value} {l : List Atm} (hs : SlA w v l) (hlen : l.length ≤ 1000000) : Calls Tryd.prog 111 #[v] w fun e w' => ∃ v', e = .returned v' ∧ OwnO w.heap.size w' w.heap.size v' l ∧ Grow w w' := by
  refine f111_calls _ ?_
  obtain ⟨ps, hps, hel, hsc⟩ := SlX.cells (by omega) hs
  obtain ⟨a, c, rfl, h1, h2, h3, h4⟩ := hs.ex
  refine ⟨a.isNone, nilEq (e := 57) (by kernel_rfl), condP_i (fun ha => ?_) (fun ha => ?_)⟩
  · have : a = none := by simpa using ha
    have hc := h3 this
    have : l = [] := by have : l.length = 0 := by omega
                        simpa using this
    subst this
    exact ⟨_, rfl, OwnX.nil _ _ _, Grow.refl w⟩
  · refine bs0 el_fact w fun w1 hw1 => ?_
    have g1 := alloc_grow hw1
    have s1 := alloc_size hw1
    have hl := Own.lit (B := w.heap.size) (n := 0) (sz := 2) hw1 (Nat.le_refl _) (by omega) (by simp)
    have ho : OwnO w.heap.size w1 w.heap.size (.slice (some ⟨w.heap.size, 0, none⟩) 0 0) [] := ⟨[], rfl, by simp, by simpa using hl⟩
    have hpl : ps.length = l.length := by rw [← hps, List.length_map]
    refine pappX (qs := ps) el_fact (by omega) ho (SlC.grow hsc g1) (fun p hp => ⟨(hel p hp).1, repA_one (hel p hp).2, fun w' hf => repA_mono _ _ _ _ (g1.fr hf fun i hi e => ?_) (hel p hp).2⟩) (by omega) (by simp; omega) (by omega) ?_
    · rcases e with e | e
      · omega
      · simp [Value.ownBlock] at e; omega
    · intro v' w' ho' hf hn _
      refine ⟨v', rfl, by simpa [hps] using ho', g1.fr hf fun i hi e => ?_⟩
      simp [Value.ownBlock] at e
      omega
/-- What holds between the rounds of CompactFunc, once two neighbours were equal: k kept, the rest from place k on as it was. -/
structure CpI (T : Nat → Prop) (w : World) (B g n cap : Nat) (l : List Atm) (ps : List (List Value × Atm)) (k j : Nat) (w' : World) (qs : List (List Value × Atm)) : Prop where
  len : qs.length = n
  kept : (qs.take k).map Prod.snd = dd (l.take j)
  rest : ∀ i, k ≤ i → qs[i]? = ps[i]?
  el : ∀ q ∈ qs, ElX T 2 repA (.slice (some ⟨g, 0, none⟩) n cap) w' q
  own : Own w' B 57 2 (.slice (some ⟨g, 0, none⟩) n cap) n (qs.flatMap Prod.fst)
  fr : Fr (fun b => b = g) w w'
theorem app2 (a b : Value) : (#[] ++ #[a, b] ++ #[] : Array Value) = #[a, b] := rfl
theorem rec_at {w : World} {B g n cap : Nat} {t : TypeId} {qs : List (List Value × Atm)} (hl : ∀ q ∈ qs, q.1.length = 2) (ho : Own w B t 2 (.slice (some ⟨g, 0, none⟩) n cap) n (qs.flatMap Prod.fst)) {i : Nat} (hi : i < qs.length) : ∀ (j : Nat) (u : Value), (qs[i].1)[j]? = some u → w.cell? ⟨g, i * 2 + j, none⟩ = some u := by
  intro j u hj
  have hjk : j < 2 := by
    have h1 := (List.getElem?_eq_some_iff.1 hj).1
    have h2 := hl _ (List.getElem_mem hi)
    omega
  have hc := World.ownsRow.cells (g := g) ho rfl (i * 2 + j) u (by rw [flat_get' hl hi hjk]; exact hj)
  rwa [Addr.add0] at hc
theorem compactF_c {T : Nat → Prop} {w : World} {B : Nat} {v : Value} {l : List Atm} (ho : OwnX T 2 repA w B 57 v l) : Calls Tryd.prog 114 #[v, .func (.func 115) #[] #[]] w fun e w' => ∃ v', e = .returned v' ∧ OwnX T 2 repA w' B 57 v' (dd l) ∧ FrO v w w' ∧ (∀ b, v'.ownBlock = some b → v.ownBlock = some b) := by
  refine f114_calls _ _ ?_
  have hle := SlX.len_le ho.slX
  refine ho.ln (condD (fun h2 => ⟨v, rfl, ?_, Fr.refl _ _, fun b hb => hb⟩) fun h2 => ?_)
  · have : dd l = l := by
      match l, h2 with
      | [], _ => rfl
      | [a], _ => rfl
      | _ :: _ :: r, h => simp at h; omega
    rwa [this]
  obtain ⟨ps, hps, hel, hown⟩ := ho.ex
  have hpl : ps.length = l.length := by rw [← hps, List.length_map]
  have hv : ∃ g cap, v = .slice (some ⟨g, 0, none⟩) l.length cap ∧ l.length ≤ cap ∧ g < w.heap.size := by
    rcases hown.2 with ⟨_, h0⟩ | ⟨g, cap, cur, rfl, hb, hgg, hnc, _⟩
    · omega
    · exact ⟨g, cap, rfl, hnc, (Array.getElem?_eq_some_iff.1 hgg).1⟩
  obtain ⟨g, cap, rfl, hcap, hgw⟩ := hv
  have hl2 : ∀ p ∈ ps, p.1.length = 2 := fun p hp => (hel p hp).len
  have eqc : ∀ {w1 : World} {p q : List Value × Atm}, ElX T 2 repA (.slice (some ⟨g, 0, none⟩) l.length cap) w1 p → ElX T 2 repA (.slice (some ⟨g, 0, none⟩) l.length cap) w1 q → ∀ w2, Grow w1 w2 → Calls Tryd.prog 115 (#[] ++ #[.agg p.1.toArray, .agg q.1.toArray] ++ #[]) w2 fun e w' => e = .returned (.bool (decide (p.2 = q.2))) ∧ Grow w2 w' := fun {w1 p q} hp hq w2 hg => by
    obtain ⟨u, h1, hu⟩ := hp.rep w2 (Fr.of_grow hg)
    obtain ⟨u', h1', hu'⟩ := hq.rep w2 (Fr.of_grow hg)
    rw [h1, h1', app2]
    exact eqA_c (r := p.2.1) (s := q.2.1) hu hu'
  have idx : ∀ i (hi : i < l.length), (ps[i]'(by omega)).2 = l[i] := fun i hi => by
    simp only [← hps, List.getElem_map]
  have at0 : ∀ (i j : Nat), Addr.add (Addr.add ⟨g, 0, none⟩ (i * 2)) j = ⟨g, i * 2 + j, none⟩ := fun i j => by rw [add_add, Addr.add0]
  refine ⟨fun k w' => ∃ i : Nat, k = i ∧ 1 ≤ i ∧ i ≤ l.length ∧ dd (l.take i) = l.take i ∧ Grow w w', fun k _ => l.length - k.toNat, ⟨1, rfl, by omega, by omega, ?_, Grow.refl w⟩, ?_⟩
  · match l, h2 with
    | [], h => simp at h
    | a :: r, _ => rfl
  rintro - k w8 ⟨i, rfl, hi1, hi, hdd, g8⟩
  have o8 := Own.grow hown g8
  refine ⟨_, _, _, rfl, condD (fun hlt => ?_) fun hge => ?_⟩
  · have hil : i < l.length := by omega
    have e1 : ((i : Int) - 1).toNat = i - 1 := by omega
    refine ⟨_, _, _, rfl, ⟨by omega, by omega⟩, (ps[i]'(by omega)).1, hl2 _ (List.getElem_mem _), fun j u hj => ?_, by unfold inR; omega, _, _, _, rfl, ⟨by omega, by omega⟩, (ps[i - 1]'(by omega)).1, hl2 _ (List.getElem_mem _), fun j u hj => ?_, ?_⟩
    · rw [Int.toNat_natCast, at0]; exact rec_at hl2 o8 (by omega) j u hj
    · rw [e1, at0]; exact rec_at hl2 o8 (by omega) j u hj
    refine ⟨_, _, _, rfl, by kernel_rfl, _, eqc ((hel _ (List.getElem_mem _)).grow g8) ((hel _ (List.getElem_mem _)).grow g8), fun w27 g27 => ?_⟩
    have g027 := g8.trans g27
    rw [idx i hil, idx (i - 1) (by omega)]
    have hdt := dd_take (l := l) hi1 hil
    refine condD (fun heq => ?_) fun hne => ?_
    · rw [if_pos heq, List.append_nil] at hdt
      have hsb : sbR (some (Value.int .i64 (i : Int))) none none l.length cap i l.length cap := ⟨rfl, rfl, rfl, by simp, by omega, by omega, by omega⟩
      have hci : ¬ cap = i := by omega
      refine ⟨_, _, _, rfl, i, l.length, cap, hsb, ?_⟩
      rw [if_neg hci]
      refine ⟨fun k k2 w' => ∃ (a b : Nat) (qs : List (List Value × Atm)), k = a ∧ k2 = b ∧ 1 ≤ b ∧ i + b ≤ l.length ∧ a + 1 ≤ i + b ∧ 1 ≤ a ∧ CpI T w B g l.length cap l ps a (i + b) w' qs, fun _ k2 _ => l.length - i - k2.toNat, ⟨i, 1, ps, rfl, rfl, by omega, by omega, by omega, by omega, ⟨hpl, ?_, fun _ _ => rfl, fun q hq => (hel q hq).grow g027, Own.grow hown g027, Fr.of_grow g027⟩⟩, ?_⟩
      · rw [hdt, hdd, List.map_take, hps]
      rintro - - - w39 ⟨a, b, qs, rfl, rfl, hb1, hib, hab, ha1, hI⟩
      have hql : ∀ q ∈ qs, q.1.length = 2 := fun q hq => (hI.el q hq).len
      have hqn := hI.len
      refine ⟨_, _, _, rfl, condD (fun hlt2 => ?_) fun hge2 => ?_⟩
      · have hbl : i + b < l.length := by omega
        have qe : ∀ j (hj : a ≤ j) (hjl : j < l.length), qs[j]'(by omega) = ps[j]'(by omega) := fun j hj hjl => by
          have := hI.rest j hj
          rw [List.getElem?_eq_getElem (by omega), List.getElem?_eq_getElem (by omega)] at this
          exact Option.some.inj this
        have e2 : ((b : Int) - 1).toNat = b - 1 := by omega
        have at2 : ∀ (x j : Nat), Addr.add (Addr.add (Addr.add ⟨g, 0, none⟩ (i * 2)) (x * 2)) j = ⟨g, (i + x) * 2 + j, none⟩ := fun x j => by
          rw [add_add, add_add, Addr.add0]; congr 1; omega
        refine ⟨_, _, _, rfl, ⟨by omega, by omega⟩, (qs[i + b]'(by omega)).1, hql _ (List.getElem_mem _), fun j u hj => ?_, by unfold inR; omega, _, _, _, rfl, ⟨by omega, by omega⟩, (qs[i + (b - 1)]'(by omega)).1, hql _ (List.getElem_mem _), fun j u hj => ?_, ?_⟩
        · rw [Int.toNat_natCast, at2]; exact rec_at hql hI.own (by omega) j u hj
        · rw [e2, at2]; exact rec_at hql hI.own (by omega) j u hj
        refine ⟨_, _, _, rfl, by kernel_rfl, _, eqc (hI.el _ (List.getElem_mem _)) (hI.el _ (List.getElem_mem _)), fun w58 g58 => ?_⟩
        have hdt2 := dd_take (l := l) (i := i + b) (by omega) hbl
        have c1 : (qs[i + b]'(by omega)).2 = l[i + b] := by rw [qe _ (by omega) (by omega), idx]
        have c2 : (qs[i + (b - 1)]'(by omega)).2 = l[i + b - 1] := by
          rw [qe _ (by omega) (by omega), idx (i + (b - 1)) (by omega)]
          congr 1; omega
        rw [c1, c2]
        have hI58 : CpI T w B g l.length cap l ps a (i + b) w58 qs := ⟨hqn, hI.kept, hI.rest, fun q hq => (hI.el q hq).grow g58, Own.grow hI.own g58, hI.fr.trans (Fr.of_grow g58)⟩
        refine condP_i (fun hne => ?_) fun heq2 => ?_
        · have hne : ¬ l[i + b] = l[i + b - 1] := by simpa using hne
          rw [if_neg hne] at hdt2
          refine ⟨_, _, _, rfl, ⟨by omega, by omega⟩, (qs[i + b]'(by omega)).1, hql _ (List.getElem_mem _), fun j u hj => ?_, _, _, _, rfl, ⟨by omega, by omega⟩, ?_⟩
          · rw [Int.toNat_natCast, at2]; exact rec_at hql hI58.own (by omega) j u hj
          · have hel58 := hI58.el _ (List.getElem_mem (show i + b < qs.length by omega))
            have hfl : (qs.flatMap Prod.fst).length = qs.length * 2 := flat_len' hql
            obtain ⟨w66, hr, hf66, ho66⟩ := Own.put (P := Tryd.prog) (o := a * 2) (vs := (qs[i + b]'(by omega)).1) hI58.own (by rw [hel58.len]; omega) hel58.one
            refine ⟨_, rfl, by simpa using hel58.len, w66, ?_, by unfold inR; omega, by unfold inR; omega, ⟨a + 1, b + 1, qs.set a (qs[i + b]'(by omega)), by omega, by omega, by omega, by omega, by omega, by omega, ?_⟩, by dsimp only; omega⟩
            · rw [Int.toNat_natCast, Addr.add0]
              simpa using hr
            · refine ⟨by simpa using hqn, ?_, fun j hj => ?_, fun q hq => ?_, ?_, hI58.fr.trans hf66⟩
              · rw [← Nat.add_assoc, hdt2, ← hI.kept, List.take_succ_eq_append_getElem (by simp; omega), List.map_append]
                congr 1
                · rw [List.take_set_of_le (by omega)]
                · simp [c1]
              · rw [List.getElem?_set_ne (by omega)]
                exact hI.rest j (by omega)
              · rcases List.mem_or_eq_of_mem_set hq with hq | rfl
                · exact (hI58.el q hq).later (hf66.mono fun b' _ e => .inr (by rw [e]; rfl))
                · exact hel58.later (hf66.mono fun b' _ e => .inr (by rw [e]; rfl))
              · have e3 : (qs.set a (qs[i + b]'(by omega))).flatMap Prod.fst = (qs.flatMap Prod.fst).take (a * 2) ++ (qs[i + b]'(by omega)).1 ++ (qs.flatMap Prod.fst).drop (a * 2 + (qs[i + b]'(by omega)).1.length) := flat_set hql (by omega) hel58.len
                rw [e3]; exact ho66
        · have heq2 : l[i + b] = l[i + b - 1] := by simpa using heq2
          rw [if_pos heq2, List.append_nil] at hdt2
          refine ⟨by unfold inR; omega, ⟨a, b + 1, qs, rfl, by omega, by omega, by omega, by omega, ha1, ⟨hqn, ?_, hI58.rest, hI58.el, hI58.own, hI58.fr⟩⟩, by dsimp only; omega⟩
          rw [← Nat.add_assoc, hdt2]; exact hI.kept
      · have hbl : i + b = l.length := by omega
        have hsb2 : sbR (some (Value.int .i64 (a : Int))) none none l.length cap a l.length cap := ⟨rfl, rfl, rfl, by simp, by omega, by omega, by omega⟩
        have hca : ¬ cap = a := by omega
        have hfl : (qs.flatMap Prod.fst).length = qs.length * 2 := flat_len' hql
        have hzl : (Builtin.zeroCells (Value.agg #[.int .i64 0, .slice none 0 0]).cells (l.length - a)).toList.length = (l.length - a) * 2 := by
          rw [Array.length_toList, size_zeroCells]; rfl
        obtain ⟨w74, hr, hf74, ho74⟩ := Own.put (P := Tryd.prog) (o := a * 2) (vs := (Builtin.zeroCells (Value.agg #[.int .i64 0, .slice none 0 0]).cells (l.length - a)).toList) hI.own (by rw [hzl]; omega) (zeroCells_mem (by decide) (by
          intro u hu
          simp [Value.cells] at hu
          rcases hu with rfl | rfl <;> rfl))
        refine ⟨_, _, _, rfl, a, l.length, cap, hsb2, w74, ?_, ?_⟩
        · rw [if_neg hca]
          refine clear_run el_fact (by omega) ?_
          show (storeCells (Addr.add ⟨g, 0, none⟩ (a * 2)) _).run _ _ = _
          rw [Addr.add0]; exact hr
        · refine ⟨_, _, _, rfl, 0, a, cap, ⟨rfl, rfl, rfl, by simp, by omega, by omega, by omega⟩, ?_⟩
          have hcc : ¬ cap = 0 := by omega
          have hcut := Own.cut ho74 (k := a) (by omega)
          have e5 : ((qs.flatMap Prod.fst).take (a * 2) ++ (Builtin.zeroCells (Value.agg #[.int .i64 0, .slice none 0 0]).cells (l.length - a)).toList ++ (qs.flatMap Prod.fst).drop (a * 2 + (Builtin.zeroCells (Value.agg #[.int .i64 0, .slice none 0 0]).cells (l.length - a)).toList.length)).take (a * 2) = (qs.take a).flatMap Prod.fst := by
            rw [List.append_assoc, List.take_append_of_le_length (by rw [List.length_take, hfl]; omega), List.take_take, Nat.min_self]
            exact (flat_take hql).symm
          rw [e5] at hcut
          have hkl : (dd l).length = a := by
            have := congrArg List.length hI.kept
            rw [hbl, List.take_length] at this
            rw [← this]; simp; omega
          refine ⟨_, rfl, ⟨qs.take a, ?_, fun q hq => ?_, ?_⟩, hI.fr.trans hf74 |>.mono (fun b' _ e => by rw [e]; rfl), fun b' hb' => ?_⟩
          · rw [hI.kept, hbl, List.take_length]
          · have hq' := hI.el q (List.mem_of_mem_take hq)
            refine ⟨hq'.len, hq'.one, fun w2 hf2 => hq'.rep w2 ((hf74.mono fun b' _ e => .inr (by rw [e]; rfl)).trans (hf2.mono fun b' _ e => ?_))⟩
            rcases e with e | e
            · exact .inl e
            · refine .inr ?_
              rw [if_neg hcc] at e
              simpa [Value.ownBlock, add_block] using e
          · rw [hkl, if_neg hcc]
            simpa [Addr.add0] using hcut
          · rw [if_neg hcc] at hb'
            simpa [Value.ownBlock, add_block] using hb'
    · rw [if_neg hne] at hdt
      refine ⟨by unfold inR; omega, ⟨i + 1, by omega, by omega, by omega, ?_, g027⟩, by dsimp only; omega⟩
      rw [hdt, hdd, List.take_succ_eq_append_getElem hil]
  · have hil : i = l.length := by omega
    subst hil
    rw [List.take_length] at hdd
    exact ⟨_, rfl, by rw [hdd]; exact ho.grow g8, Fr.of_grow g8, fun b hb => hb⟩
end Go.Proofs.YtmjpnfapjcfejaaDoor
