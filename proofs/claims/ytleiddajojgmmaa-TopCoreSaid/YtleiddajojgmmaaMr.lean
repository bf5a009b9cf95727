/- Contracts: rows of ints are sorted by the library, and put together where neighbours are equal. No condition. -/
import Derived.Test.YtleiddajojgmmaaMk
import Derived.Laws.BitsLemmas
namespace Go.Proofs.Ytleiddajojgmmaa
open Go Go.RowKit VC Go.Sort Go.Shelf
set_option linter.unusedSimpArgs false
set_option linter.unusedVariables false

theorem el_row : ElT Try.prog 31 22 1 24 (.slice none 0 0) := ⟨by kernel_rfl, ⟨Try.t22, by kernel_rfl, by kernel_rfl, by kernel_rfl, by kernel_rfl⟩, rfl⟩
theorem eqL_c {w : World} {u v : Value} {xs ys : List Int} (hx : SlI w u xs) (hy : SlI w v ys) : Calls Try.prog 94 #[u, v] w (Ret w (.bool (decide (xs = ys)))) := by
  refine f94_calls _ _ ?_
  refine (equal_c hx hy).mono ?_
  rintro e w' ⟨rfl, g⟩
  exact ⟨_, rfl, rfl, g⟩
theorem cmpL_c {w : World} {u v : Value} {xs ys : List Int} (hx : SlI w u xs) (hy : SlI w v ys) : Calls Try.prog 92 #[u, v] w (Same w (.int .i64 (cmpL xs ys))) := by
  refine f92_calls _ _ ?_
  refine (compare_c hx hy).mono ?_
  rintro e w' ⟨rfl, rfl⟩
  exact ⟨_, rfl, rfl, rfl⟩
theorem flat_set1 {α : Type} {f : α → List Value} {xs : List α} {i : Nat} {y : α} {u : Value} (h : ∀ x ∈ xs, (f x).length = 1) (hi : i < xs.length) (hy : f y = [u]) : (xs.set i y).flatMap f = (xs.flatMap f).set i u := by
  have hl : (xs.flatMap f).length = xs.length * 1 := flat_len' h
  rw [flat_set h hi (by rw [hy]; rfl), hy, List.set_eq_take_append_cons_drop, if_pos (by omega)]
  simp
/-- What holds between the rounds of CompactFunc, once two neighbours were equal: k kept, the rest from place k on as it was. -/
structure CpL (T : Nat → Prop) (w : World) (B g n cap : Nat) (l : List (List Int)) (ps : List (List Value × List Int)) (k j : Nat) (w' : World) (qs : List (List Value × List Int)) : Prop where
  len : qs.length = n
  kept : (qs.take k).map Prod.snd = dd (l.take j)
  rest : ∀ i, k ≤ i → qs[i]? = ps[i]?
  el : ∀ q ∈ qs, ElX T 1 repI (.slice (some ⟨g, 0, none⟩) n cap) w' q
  own : Own w' B 22 1 (.slice (some ⟨g, 0, none⟩) n cap) n (qs.flatMap Prod.fst)
  fr : Fr (fun b => b = g) w w'
theorem rec_al {w : World} {B g n cap : Nat} {qs : List (List Value × List Int)} (hl : ∀ q ∈ qs, q.1.length = 1) (ho : Own w B 22 1 (.slice (some ⟨g, 0, none⟩) n cap) n (qs.flatMap Prod.fst)) {i : Nat} (hi : i < qs.length) : ∀ (j : Nat) (u : Value), (qs[i].1)[j]? = some u → w.cell? ⟨g, i * 1 + j, none⟩ = some u := by
  intro j u hj
  have hjk : j < 1 := by
    have h1 := (List.getElem?_eq_some_iff.1 hj).1
    have h2 := hl _ (List.getElem_mem hi)
    omega
  have hc := World.ownsRow.cells (g := g) ho rfl (i * 1 + j) u (by rw [flat_get' hl hi hjk]; exact hj)
  rwa [Addr.add0] at hc
theorem compactL_c {T : Nat → Prop} {w : World} {B : Nat} {v : Value} {l : List (List Int)} (ho : OwnX T 1 repI w B 22 v l) : Calls Try.prog 93 #[v, .func (.func 94) #[] #[]] w fun e w' => ∃ v', e = .returned v' ∧ OwnX T 1 repI w' B 22 v' (dd l) ∧ FrO v w w' ∧ (∀ b, v'.ownBlock = some b → v.ownBlock = some b) := by
  refine f93_calls _ _ ?_
  have hle := SlX.len_le ho.slX
  refine ho.ln (condD (fun h2 => ⟨v, rfl, ?_, Fr.refl _ _, fun b hb => hb⟩) fun h2 => ?_)
  · have : dd l = l := by
      match l, h2 with
      | [], _ => rfl
      | [a], _ => rfl
      | _ :: _ :: r, h => simp at h; omega
    rwa [this]
  obtain ⟨ps, hps, hel, hown⟩ := ho.ex
  have hpl : ps.length = l.length := by rw [← hps, List.length_map]
  have hv : ∃ g cap, v = .slice (some ⟨g, 0, none⟩) l.length cap ∧ l.length ≤ cap ∧ g < w.heap.size := by
    rcases hown.2 with ⟨_, h0⟩ | ⟨g, cap, cur, rfl, hb, hgg, hnc, _⟩
    · omega
    · exact ⟨g, cap, rfl, hnc, (Array.getElem?_eq_some_iff.1 hgg).1⟩
  obtain ⟨g, cap, rfl, hcap, hgw⟩ := hv
  have hl2 : ∀ p ∈ ps, p.1.length = 1 := fun p hp => (hel p hp).len
  have eqc : ∀ {w1 : World} {p q : List Value × List Int}, ElX T 1 repI (.slice (some ⟨g, 0, none⟩) l.length cap) w1 p → ElX T 1 repI (.slice (some ⟨g, 0, none⟩) l.length cap) w1 q → ∀ {a b : Value}, p.1 = [a] → q.1 = [b] → ∀ w2, Grow w1 w2 → Calls Try.prog 94 (#[] ++ #[a, b] ++ #[]) w2 fun e w' => e = .returned (.bool (decide (p.2 = q.2))) ∧ Grow w2 w' := fun {w1 p q} hp hq {a b} ea eb w2 hg => by
    obtain ⟨u, h1, hu⟩ := hp.rep w2 (Fr.of_grow hg)
    obtain ⟨u', h1', hu'⟩ := hq.rep w2 (Fr.of_grow hg)
    rw [ea] at h1
    rw [eb] at h1'
    obtain rfl : a = u := by simpa using h1
    obtain rfl : b = u' := by simpa using h1'
    rw [app2]
    exact eqL_c hu hu'
  have one : ∀ {w1 : World} {p : List Value × List Int}, ElX T 1 repI (.slice (some ⟨g, 0, none⟩) l.length cap) w1 p → ∃ a, p.1 = [a] := fun {w1 p} hp => by
    obtain ⟨u, h1, _⟩ := hp.rep w1 (Fr.refl _ _)
    exact ⟨u, h1⟩
  have idx : ∀ i (hi : i < l.length), (ps[i]'(by omega)).2 = l[i] := fun i hi => by
    simp only [← hps, List.getElem_map]
  have at0 : ∀ (i : Nat), Addr.add ⟨g, 0, none⟩ (i * 1) = ⟨g, i * 1 + 0, none⟩ := fun i => by rw [Addr.add0]; rfl
  refine ⟨fun k w' => ∃ i : Nat, k = i ∧ 1 ≤ i ∧ i ≤ l.length ∧ dd (l.take i) = l.take i ∧ Grow w w', fun k _ => l.length - k.toNat, ⟨1, rfl, by omega, by omega, ?_, Grow.refl w⟩, ?_⟩
  · match l, h2 with
    | [], h => simp at h
    | a :: r, _ => rfl
  rintro - k w8 ⟨i, rfl, hi1, hi, hdd, g8⟩
  have o8 := Own.grow hown g8
  refine ⟨_, _, _, rfl, condD (fun hlt => ?_) fun hge => ?_⟩
  · have hil : i < l.length := by omega
    have e1 : ((i : Int) - 1).toNat = i - 1 := by omega
    obtain ⟨ua, ea⟩ := one (hel _ (List.getElem_mem (show i < ps.length by omega)))
    obtain ⟨ub, eb⟩ := one (hel _ (List.getElem_mem (show i - 1 < ps.length by omega)))
    refine ⟨_, _, _, rfl, ⟨by omega, by omega⟩, ua, ?_, by unfold inR; omega, _, _, _, rfl, ⟨by omega, by omega⟩, ub, ?_, ?_⟩
    · rw [Int.toNat_natCast, at0]; exact rec_al hl2 o8 (by omega) 0 ua (by rw [ea]; rfl)
    · rw [e1, at0]; exact rec_al hl2 o8 (by omega) 0 ub (by rw [eb]; rfl)
    refine ⟨_, _, _, rfl, by kernel_rfl, _, eqc ((hel _ (List.getElem_mem _)).grow g8) ((hel _ (List.getElem_mem _)).grow g8) ea eb, fun w27 g27 => ?_⟩
    have g027 := g8.trans g27
    rw [idx i hil, idx (i - 1) (by omega)]
    have hdt := dd_take (l := l) hi1 hil
    refine condD (fun heq => ?_) fun hne => ?_
    · rw [if_pos heq, List.append_nil] at hdt
      have hsb : sbR (some (Value.int .i64 (i : Int))) none none l.length cap i l.length cap := ⟨rfl, rfl, rfl, by simp, by omega, by omega, by omega⟩
      have hci : ¬ cap = i := by omega
      refine ⟨_, _, _, rfl, i, l.length, cap, hsb, ?_⟩
      rw [if_neg hci]
      refine ⟨fun k k2 w' => ∃ (a b : Nat) (qs : List (List Value × List Int)), k = a ∧ k2 = b ∧ 1 ≤ b ∧ i + b ≤ l.length ∧ a + 1 ≤ i + b ∧ 1 ≤ a ∧ CpL T w B g l.length cap l ps a (i + b) w' qs, fun _ k2 _ => l.length - i - k2.toNat, ⟨i, 1, ps, rfl, rfl, by omega, by omega, by omega, by omega, ⟨hpl, ?_, fun _ _ => rfl, fun q hq => (hel q hq).grow g027, Own.grow hown g027, Fr.of_grow g027⟩⟩, ?_⟩
      · rw [hdt, hdd, List.map_take, hps]
      rintro - - - w39 ⟨a, b, qs, rfl, rfl, hb1, hib, hab, ha1, hI⟩
      have hql : ∀ q ∈ qs, q.1.length = 1 := fun q hq => (hI.el q hq).len
      have hqn := hI.len
      refine ⟨_, _, _, rfl, condD (fun hlt2 => ?_) fun hge2 => ?_⟩
      · have hbl : i + b < l.length := by omega
        have qe : ∀ j (hj : a ≤ j) (hjl : j < l.length), qs[j]'(by omega) = ps[j]'(by omega) := fun j hj hjl => by
          have := hI.rest j hj
          rw [List.getElem?_eq_getElem (by omega), List.getElem?_eq_getElem (by omega)] at this
          exact Option.some.inj this
        have e2 : ((b : Int) - 1).toNat = b - 1 := by omega
        have at2 : ∀ (x : Nat), Addr.add (Addr.add ⟨g, 0, none⟩ (i * 1)) (x * 1) = ⟨g, (i + x) * 1 + 0, none⟩ := fun x => by
          rw [add_add, Addr.add0]; congr 1; omega
        obtain ⟨ua, ea⟩ := one (hI.el _ (List.getElem_mem (show i + b < qs.length by omega)))
        obtain ⟨ub, eb⟩ := one (hI.el _ (List.getElem_mem (show i + (b - 1) < qs.length by omega)))
        refine ⟨_, _, _, rfl, ⟨by omega, by omega⟩, ua, ?_, by unfold inR; omega, _, _, _, rfl, ⟨by omega, by omega⟩, ub, ?_, ?_⟩
        · rw [Int.toNat_natCast, at2]; exact rec_al hql hI.own (by omega) 0 ua (by rw [ea]; rfl)
        · rw [e2, at2]; exact rec_al hql hI.own (by omega) 0 ub (by rw [eb]; rfl)
        refine ⟨_, _, _, rfl, by kernel_rfl, _, eqc (hI.el _ (List.getElem_mem _)) (hI.el _ (List.getElem_mem _)) ea eb, fun w58 g58 => ?_⟩
        have hdt2 := dd_take (l := l) (i := i + b) (by omega) hbl
        have c1 : (qs[i + b]'(by omega)).2 = l[i + b] := by rw [qe _ (by omega) (by omega), idx]
        have c2 : (qs[i + (b - 1)]'(by omega)).2 = l[i + b - 1] := by
          rw [qe _ (by omega) (by omega), idx (i + (b - 1)) (by omega)]
          congr 1; omega
        rw [c1, c2]
        have hI58 : CpL T w B g l.length cap l ps a (i + b) w58 qs := ⟨hqn, hI.kept, hI.rest, fun q hq => (hI.el q hq).grow g58, Own.grow hI.own g58, hI.fr.trans (Fr.of_grow g58)⟩
        refine condP_i (fun hne => ?_) fun heq2 => ?_
        · have hne : ¬ l[i + b] = l[i + b - 1] := by simpa using hne
          rw [if_neg hne] at hdt2
          have hel58 := hI58.el _ (List.getElem_mem (show i + b < qs.length by omega))
          have aA : Addr.add ⟨g, 0, none⟩ (Int.toNat (a : Int) * 1) = ⟨g, a, none⟩ := by rw [Int.toNat_natCast, Addr.add0]; simp
          refine ⟨_, _, _, rfl, ⟨by omega, by omega⟩, ua, ?_, _, _, _, rfl, ⟨by omega, by omega⟩, ?_⟩
          · rw [Int.toNat_natCast, at2]; exact rec_al hql hI58.own (by omega) 0 ua (by rw [ea]; rfl)
          · rw [aA]
            refine ⟨?_, (Own.wr hI58.own (show a < l.length by omega)).1, (Own.wr hI58.own (show a < l.length by omega)).2, fun w66 hw66 => ?_⟩
            · obtain ⟨u, h1, hu⟩ := hel58.rep w58 (Fr.refl _ _)
              rw [ea] at h1
              obtain rfl : ua = u := by simpa using h1
              exact hu.one
            have hf66 : Fr (fun k => k = g) w58 w66 := set_fr hw66
            have ho66 := Own.set hI58.own (show a < l.length by omega) hw66
            refine ⟨by unfold inR; omega, by unfold inR; omega, ⟨a + 1, b + 1, qs.set a (qs[i + b]'(by omega)), by omega, by omega, by omega, by omega, by omega, by omega, ?_⟩, by dsimp only; omega⟩
            · refine ⟨by simpa using hqn, ?_, fun j hj => ?_, fun q hq => ?_, ?_, hI58.fr.trans hf66⟩
              · rw [← Nat.add_assoc, hdt2, ← hI.kept, List.take_succ_eq_append_getElem (by simp; omega), List.map_append]
                congr 1
                · rw [List.take_set_of_le (by omega)]
                · simp [c1]
              · rw [List.getElem?_set_ne (by omega)]
                exact hI.rest j (by omega)
              · rcases List.mem_or_eq_of_mem_set hq with hq | rfl
                · exact (hI58.el q hq).later (hf66.mono fun b' _ e => .inr (by rw [e]; rfl))
                · exact hel58.later (hf66.mono fun b' _ e => .inr (by rw [e]; rfl))
              · rw [flat_set1 hql (by omega) ea]; exact ho66
        · have heq2 : l[i + b] = l[i + b - 1] := by simpa using heq2
          rw [if_pos heq2, List.append_nil] at hdt2
          refine ⟨by unfold inR; omega, ⟨a, b + 1, qs, rfl, by omega, by omega, by omega, by omega, ha1, ⟨hqn, ?_, hI58.rest, hI58.el, hI58.own, hI58.fr⟩⟩, by dsimp only; omega⟩
          rw [← Nat.add_assoc, hdt2]; exact hI.kept
      · have hbl : i + b = l.length := by omega
        have hsb2 : sbR (some (Value.int .i64 (a : Int))) none none l.length cap a l.length cap := ⟨rfl, rfl, rfl, by simp, by omega, by omega, by omega⟩
        have hca : ¬ cap = a := by omega
        have hfl : (qs.flatMap Prod.fst).length = qs.length * 1 := flat_len' hql
        have hzl : (Builtin.zeroCells (Value.slice none 0 0).cells (l.length - a)).toList.length = (l.length - a) * 1 := by
          rw [Array.length_toList, size_zeroCells]; rfl
        obtain ⟨w74, hr, hf74, ho74⟩ := Own.put (P := Try.prog) (o := a * 1) (vs := (Builtin.zeroCells (Value.slice none 0 0).cells (l.length - a)).toList) hI.own (by rw [hzl]; omega) (zeroCells_mem (by decide) (by
          intro u hu
          simp [Value.cells] at hu
          subst hu; rfl))
        refine ⟨_, _, _, rfl, a, l.length, cap, hsb2, w74, ?_, ?_⟩
        · rw [if_neg hca]
          refine clear_run el_row (by omega) ?_
          show (storeCells (Addr.add ⟨g, 0, none⟩ (a * 1)) _).run _ _ = _
          rw [Addr.add0]; exact hr
        · refine ⟨_, _, _, rfl, 0, a, cap, ⟨rfl, rfl, rfl, by simp, by omega, by omega, by omega⟩, ?_⟩
          have hcc : ¬ cap = 0 := by omega
          have hcut := Own.cut ho74 (k := a) (by omega)
          have e5 : ((qs.flatMap Prod.fst).take (a * 1) ++ (Builtin.zeroCells (Value.slice none 0 0).cells (l.length - a)).toList ++ (qs.flatMap Prod.fst).drop (a * 1 + (Builtin.zeroCells (Value.slice none 0 0).cells (l.length - a)).toList.length)).take (a * 1) = (qs.take a).flatMap Prod.fst := by
            rw [List.append_assoc, List.take_append_of_le_length (by rw [List.length_take, hfl]; omega), List.take_take, Nat.min_self]
            exact (flat_take hql).symm
          rw [e5] at hcut
          have hkl : (dd l).length = a := by
            have := congrArg List.length hI.kept
            rw [hbl, List.take_length] at this
            rw [← this]; simp; omega
          refine ⟨_, rfl, ⟨qs.take a, ?_, fun q hq => ?_, ?_⟩, hI.fr.trans hf74 |>.mono (fun b' _ e => by rw [e]; rfl), fun b' hb' => ?_⟩
          · rw [hI.kept, hbl, List.take_length]
          · have hq' := hI.el q (List.mem_of_mem_take hq)
            refine ⟨hq'.len, hq'.one, fun w2 hf2 => hq'.rep w2 ((hf74.mono fun b' _ e => .inr (by rw [e]; rfl)).trans (hf2.mono fun b' _ e => ?_))⟩
            rcases e with e | e
            · exact .inl e
            · refine .inr ?_
              rw [if_neg hcc] at e
              simpa [Value.ownBlock, add_block] using e
          · rw [hkl, if_neg hcc]
            simpa [Addr.add0] using hcut
          · rw [if_neg hcc] at hb'
            simpa [Value.ownBlock, add_block] using hb'
    · rw [if_neg hne] at hdt
      refine ⟨by unfold inR; omega, ⟨i + 1, by omega, by omega, by omega, ?_, g027⟩, by dsimp only; omega⟩
      rw [hdt, hdd, List.take_succ_eq_append_getElem hil]
  · have hil : i = l.length := by omega
    subst hil
    rw [List.take_length] at hdd
    exact ⟨_, rfl, by rw [hdd]; exact ho.grow g8, Fr.of_grow g8, fun b hb => hb⟩
theorem put_map {α : Type} [Inhabited α] (enc : α → Value) (w : World) (g : Nat) (d : Array α) : putRow enc w g 0 d = putRow id w g 0 (d.map enc) := by
  have : ∀ c : Array Value, putCells enc 0 d c = putCells id 0 (d.map enc) c := fun c => by
    unfold putCells
    apply Array.ext
    · simp
    · intro i h1 h2
      simp only [Array.getElem_mapIdx, Array.size_map]
      split
      · rename_i h
        have hi : i - 0 < d.size := by omega
        rw [getElem!_pos d _ hi, getElem!_pos (d.map enc) _ (by simpa using hi)]
        simp
      · rfl
  unfold putRow
  congr 1
  funext c
  exact this c
theorem sortL_c {T : Nat → Prop} {w : World} {B : Nat} {v : Value} {l : List (List Int)} (ho : OwnX T 1 repI w B 22 v l) (hlen : l.length ≤ 1000000) : Calls Try.prog 91 #[v, .func (.func 92) #[] #[]] w fun e w' =>
    ∃ l', e = .returned (.tuple #[]) ∧ l'.Perm l ∧ l'.Pairwise (fun a b => cmpL a b ≤ 0) ∧ OwnX T 1 repI w' B 22 v l' ∧ FrO v w w' := by
  obtain ⟨ps, hps, hel, hown⟩ := ho.ex
  have hpl : ps.length = l.length := by rw [← hps, List.length_map]
  have none : ∀ a c, l = [] → Calls Try.prog 91 #[.slice a 0 c, .func (.func 92) #[] #[]] w fun e w' => e = .returned (.tuple #[]) ∧ w' = w := fun a c _ =>
    AnyF.slices_SortFunc_none Try.laysSlF06_f91 a c _ w
  rcases hown.2 with ⟨rfl, h0⟩ | ⟨g, cap, cur, rfl, hb, hgg, hnc, hcm, hcs, htake⟩
  · have hl : l = [] := by simpa using h0
    subst hl
    refine (none _ _ rfl).mono ?_
    rintro e w' ⟨rfl, rfl⟩
    exact ⟨[], rfl, List.Perm.refl _, List.Pairwise.nil, ho, Fr.refl _ _⟩
  by_cases hl : l = []
  · subst hl
    refine (none _ _ rfl).mono ?_
    rintro e w' ⟨rfl, rfl⟩
    exact ⟨[], rfl, List.Perm.refl _, List.Pairwise.nil, ho, Fr.refl _ _⟩
  have hgw : g < w.heap.size := (Array.getElem?_eq_some_iff.1 hgg).1
  have hpos : 0 < ps.length := by
    rcases Nat.eq_zero_or_pos l.length with h | h
    · exact absurd (by simpa using h) hl
    · omega
  let α := { p : List Value × List Int // ElX T 1 repI (.slice (some ⟨g, 0, Option.none⟩) l.length cap) w p }
  haveI : Inhabited α := ⟨⟨ps[0], hel _ (List.getElem_mem hpos)⟩⟩
  let enc : α → Value := fun p => p.1.1.headD (.bool false)
  have he : ∀ x : α, x.1.1 = [enc x] := fun x => by
    obtain ⟨u, h1, _⟩ := x.2.rep w (Fr.refl _ _)
    simp only [enc]
    rw [h1]; rfl
  let d : Array α := (ps.pmap (fun p hp => (⟨p, hp⟩ : α)) hel).toArray
  have hds : d.size = l.length := by simp [d, hpl]
  have flat : ∀ xs : List α, xs.map enc = xs.flatMap (fun p => p.1.1) := fun xs => by
    induction xs with
    | nil => rfl
    | cons x r ih => rw [List.map_cons, List.flatMap_cons, ih, he x]; rfl
  have hfl : d.toList.map enc = ps.flatMap Prod.fst := by
    rw [flat]
    simp only [d]
    have : ∀ (qs : List (List Value × List Int)) (hq : ∀ p ∈ qs, ElX T 1 repI (.slice (some ⟨g, 0, Option.none⟩) l.length cap) w p), (qs.pmap (fun p hp => (⟨p, hp⟩ : α)) hq).flatMap (fun p => p.1.1) = qs.flatMap Prod.fst := by
      intro qs
      induction qs with
      | nil => intro _; rfl
      | cons q r ih => intro hq; simp only [List.pmap_cons, List.flatMap_cons]; rw [ih]
    exact this ps hel
  have hcont : d.toList.map (fun p => p.1.2) = l := by
    refine Eq.trans ?_ hps
    simp only [d, List.map_pmap]
    rw [List.pmap_eq_map]
  have hH : Holds enc w g 0 d := by
    have h1 := Own.holds hown
    rw [← hfl] at h1
    intro j hj
    have := h1 j (by simpa using hj)
    rw [getElem!_pos d j hj]
    have e : (d.toList.map enc).toArray[j]! = enc d[j] := by
      rw [getElem!_pos _ j (by simpa using hj)]
      simp
    rw [e] at this
    exact this
  have h1 : OneCell enc := fun x => by
    have := x.2.one (enc x) (by rw [he x]; simp)
    exact this
  have eg := callAll 92 (by kernel_rfl)
  have hcmp : CmpLays1 Try.prog 92 #[] enc (fun x y => cmpL x.1.2 y.1.2) g 0 d.size w := by
    intro m os dk hdk x y
    have hfr : FrT T (.slice (some ⟨g, 0, Option.none⟩) l.length cap) w (sortWorld enc w g 0 m dk os) := by
      unfold sortWorld
      rw [put_map]
      exact (put_fr (n := m) (os := os) (dk.map enc)).mono fun b _ e => .inr (by rw [e]; rfl)
    obtain ⟨u, h1, hu⟩ := x.2.rep _ hfr
    obtain ⟨u', h1', hu'⟩ := y.2.rep _ hfr
    rw [he x] at h1
    rw [he y] at h1'
    obtain rfl : enc x = u := by simpa using h1
    obtain rfl : enc y = u' := by simpa using h1'
    refine (cmpL_c hu hu').mono ?_
    rintro e w' ⟨rfl, rfl⟩
    exact ⟨rfl, growD (Grow.refl _) (Nat.le_refl _)⟩
  have key := Try.slices_SortFunc enc h1 (fun x y => cmpL x.1.2 y.1.2) (swoL (α := α) fun x => x.1.2) 92 #[] g 0 cap d w eg hcmp hH hgw (by omega)
  rw [hds] at key
  refine key.mono ?_
  rintro e w' ⟨rfl, d', n, os, hperm, hsort, rfl⟩
  have hds' : d'.size = l.length := hperm.1.trans hds
  have hp : d'.toList.Perm d.toList := by
    have := hperm.2.2
    have a1 : d'.extract 0 l.length = d' := by rw [← hds']; simp
    have a2 : d.extract 0 l.length = d := by rw [← hds]; simp
    rwa [a1, a2] at this
  have eW : sortWorld enc w g 0 n d' os = Go.Sort.grow (putRow id (Go.Sort.ahead w n) g 0 (d'.toList.map enc).toArray) os := by
    unfold sortWorld
    rw [put_map]
    congr 2
    apply Array.ext'
    simp
  have hf : FrO (.slice (some ⟨g, 0, Option.none⟩) l.length cap) w (sortWorld enc w g 0 n d' os) := by
    rw [eW]
    exact (put_fr (n := n) (os := os) _).mono fun b _ e => by rw [e]; rfl
  refine ⟨d'.toList.map (fun p => p.1.2), rfl, ?_, ?_, ⟨d'.toList.map (fun p => p.1), by rw [List.map_map]; rfl, fun p hp' => ?_, ?_⟩, hf⟩
  · have := hp.map (fun p => p.1.2)
    rwa [hcont] at this
  · rw [List.pairwise_map, List.pairwise_iff_getElem]
    intro i j hi hj hij
    have hi' : i < d'.size := by simpa using hi
    have hj' : j < d'.size := by simpa using hj
    have := hsort i j (Nat.zero_le _) hij (by omega)
    rw [getElem!_pos d' j hj', getElem!_pos d' i hi'] at this
    simp only [ltOf, decide_eq_false_iff_not] at this
    have h3 := cmpL_swap d'[i].1.2 d'[j].1.2
    simp only [Array.getElem_toList]
    have h4 : ¬ cmpL d'[j].1.2 d'[i].1.2 < 0 := this
    omega
  · obtain ⟨q, _, rfl⟩ := List.mem_map.1 hp'
    exact q.2.later (hf.mono fun b _ e => .inr e)
  · have e1 : (d'.toList.map (fun p => p.1)).flatMap Prod.fst = d'.toList.map enc := by rw [List.flatMap_map, flat]
    have e2 : (d'.toList.map (fun p => p.1.2)).length = l.length := by simp [hds']
    rw [e1, e2, eW]
    exact Own.behind (m := n) (os := os) (ts := d'.toList.map enc) hown (by simp [hds'])
/-! ## Sorted and put together: each row once -/
theorem ddpL_sorted : ∀ {r : List (List Int)} {y : List Int}, (y :: r).Pairwise (fun a b => cmpL a b ≤ 0) → (y :: ddp y r).Pairwise (fun a b => cmpL a b < 0)
  | [], y, _ => by simp [ddp]
  | x :: r, y, h => by
    obtain ⟨h1, h2⟩ := List.pairwise_cons.1 h
    have ih := ddpL_sorted h2
    rw [ddp]
    split
    · rename_i e
      subst e; exact ih
    · rename_i hne
      have hyx : cmpL y x < 0 := by
        have := h1 x (List.mem_cons_self ..)
        have : cmpL y x ≠ 0 := fun e => hne (cmpL_zero.1 e).symm
        omega
      refine List.pairwise_cons.2 ⟨fun z hz => ?_, ih⟩
      rcases List.mem_cons.1 hz with rfl | hz
      · exact hyx
      · exact cmpL_lt_trans hyx ((List.pairwise_cons.1 ih).1 z hz)
theorem ddL_srt {l l' : List (List Int)} (hp : l'.Perm l) (h : l'.Pairwise (fun a b => cmpL a b ≤ 0)) : dd l' = srtL l := by
  refine srt_eq key_id ?_ fun a => mem_dd.trans hp.mem_iff
  cases l' with
  | nil => exact List.Pairwise.nil
  | cons a r => exact ddpL_sorted h
end Go.Proofs.Ytleiddajojgmmaa

/- Contracts: results and their number. No condition. -/
namespace Go.Proofs.Ytleiddajojgmmaa
open Go Go.RowKit VC
set_option linter.unusedSimpArgs false
set_option linter.unusedVariables false

theorem runF_len {l b : List Atm} {ms : List Vals} (h : runF l b = some ms) (hb : 1 ≤ b.length) : ms.length ≤ 20000 := by
  obtain ⟨rfl, h2⟩ := runF_some.1 h
  have := h2 b.length hb (Nat.le_refl _)
  rwa [List.take_length] at this
theorem okQ_len {h : List Int} {b : List Atm} (hq : okQ h b = true) : 1 ≤ b.length ∧ b.length ≤ 5 ∧ h.length ≤ 4 := by
  simp only [okQ, Bool.and_eq_true, decide_eq_true_eq] at hq
  exact ⟨hq.1.1.1.1, hq.1.1.1.2, hq.1.1.2⟩
theorem okQ_head {h : List Int} {b : List Atm} (hq : okQ h b = true) : ∀ x ∈ h, 0 ≤ x ∧ x ≤ 7 := by
  simp only [okQ, Bool.and_eq_true, List.all_eq_true] at hq
  intro x hx
  have := hq.2 x hx
  simp only [okH, Bool.and_eq_true, decide_eq_true_eq] at this
  exact this.1
/-- Matches, and why there are none to be had. -/
def askO (h : List Int) (b l : List Atm) : Int × List Vals := if okQ h b && okFs l then (match runF l b with | some ms => (0, ms) | none => (3, [])) else (2, [])
def resO (h : List Int) (b l : List Atm) : Int × List (List Int) := if okQ h b && okFs l then (match runF l b with | some ms => (0, rowsOf h ms) | none => (3, [])) else (2, [])
theorem SlR.nil {α : Type} {f : α → List Value} (w : World) : SlR f w (.slice none 0 0) [] := SlC.nil w
theorem asked_c {w : World} {hv bv fv : Value} {h : List Int} {b l : List Atm} (hh : SlI w hv h) (hb : SlA w bv b) (hl : SlA w fv l) : Calls Try.prog 90 #[.agg #[hv, bv], fv] w fun e w' => ∃ v, e = .returned (.tuple #[v, .int .i64 (askO h b l).1]) ∧ SlV w' v (askO h b l).2 ∧ Grow w w' := by
  refine f90_calls _ _ ?_
  refine ⟨_, rfl, fun w1 hw1 => ?_⟩
  have g1 := alloc_grow hw1
  refine ⟨[_, _], rfl, two (boxc hw1 0 _ rfl) (boxc hw1 1 _ rfl), (valid_c (hh.grow g1) (hb.gr g1)).mono ?_⟩
  rintro e w4 ⟨rfl, g4⟩
  have g04 := g1.trans g4
  refine ⟨_, rfl, condP_i (fun h1 => ?_) fun h1 => ?_⟩
  · have h1 : okQ h b = false := by simpa using h1
    have e1 : askO h b l = (2, []) := by simp [askO, h1]
    rw [e1]
    exact ⟨_, rfl, SlR.nil _, g04⟩
  have h1 : okQ h b = true := by simpa using h1
  refine (isFacts_c (hl.gr g04)).mono ?_
  rintro e w7 ⟨rfl, g7⟩
  have g07 := g04.trans g7
  refine ⟨_, rfl, condP_i (fun h2 => ?_) fun h2 => ?_⟩
  · have h2 : okFs l = false := by simpa using h2
    have e1 : askO h b l = (2, []) := by simp [askO, h1, h2]
    rw [e1]
    exact ⟨_, rfl, SlR.nil _, g07⟩
  have h2 : okFs l = true := by simpa using h2
  refine ⟨[_, _], rfl, two ((g4.trans g7).cell (boxc hw1 0 _ rfl)) ((g4.trans g7).cell (boxc hw1 1 _ rfl)), (matches_c (hb.gr g07) (hl.gr g07) (okB_term h1) (by have := okQ_len h1; omega) h2).mono ?_⟩
  rintro e w11 ⟨g11, ⟨v, ms, rfl, hr, hs⟩ | ⟨v, rfl, hr⟩⟩
  · have e1 : askO h b l = (0, ms) := by simp [askO, h1, h2, hr]
    rw [e1]
    exact ⟨_, _, rfl, cF rfl ⟨v, rfl, hs, g07.trans g11⟩⟩
  · have e1 : askO h b l = (3, []) := by simp [askO, h1, h2, hr]
    rw [e1]
    exact ⟨_, _, rfl, cT rfl ⟨_, rfl, SlR.nil _, g07.trans g11⟩⟩
/-- A row, a slice of the call's own that is newer than out's array. -/
theorem elx_row {T : Nat → Prop} {w : World} {B : Nat} {v out : Value} {xs : List Int} (ho : OwnI w B v xs) (hT : ∀ b, T b → b < B) (hout : ∀ b, out.ownBlock = some b → b < B) : ElX T 1 repI out w ([v], xs) := by
  refine ⟨rfl, ?_, fun w' hf => ⟨v, rfl, (Own.fr ho hf fun k hk e => ?_).slI⟩⟩
  · intro u hu
    simp at hu
    subst hu
    exact (Own.one ho).2
  · have h2 := (Own.lt ho hk).1
    rcases e with e | e
    · have := hT k e; omega
    · have h1 := hout k e.symm
      omega
/-- Rows of the call's own: they read as long as nothing turns but what was there before. -/
abbrev OwnRs (B : Nat) (w : World) (v : Value) (L : List (List Int)) : Prop := OwnX (fun b => b < B) 1 repI w B 22 v L
theorem results_o {w : World} {hv bv fv : Value} {h : List Int} {b l : List Atm} (hh : SlI w hv h) (hb : SlA w bv b) (hl : SlA w fv l) : Calls Try.prog 45 #[.agg #[hv, bv], fv] w fun e w' => ∃ v, e = .returned (.tuple #[v, .int .i64 (resO h b l).1]) ∧ OwnRs w.heap.size w' v (resO h b l).2 ∧ Grow w w' := by
  refine f45_calls _ _ ?_
  refine ⟨_, rfl, fun w1 hw1 => ?_⟩
  have g1 := alloc_grow hw1
  refine ⟨[_, _], rfl, two (boxc hw1 0 _ rfl) (boxc hw1 1 _ rfl), (asked_c (hh.grow g1) (hb.gr g1) (hl.gr g1)).mono ?_⟩
  rintro e w4 ⟨v, rfl, hs, g4⟩
  have g04 := g1.trans g4
  refine ⟨_, _, rfl, ?_⟩
  by_cases hq : (okQ h b && okFs l) = true
  rotate_left
  · have e1 : askO h b l = (2, []) := by rw [askO, if_neg hq]
    have e2 : resO h b l = (2, []) := by rw [resO, if_neg hq]
    rw [e1] at hs ⊢
    rw [e2]
    exact cT rfl ⟨_, rfl, OwnX.nil _ _ _, g04⟩
  have hq' := hq
  rw [Bool.and_eq_true] at hq'
  cases hr : runF l b with
  | none =>
    have e1 : askO h b l = (3, []) := by rw [askO, if_pos hq, hr]
    have e2 : resO h b l = (3, []) := by rw [resO, if_pos hq, hr]
    rw [e1] at hs ⊢
    rw [e2]
    exact cT rfl ⟨_, rfl, OwnX.nil _ _ _, g04⟩
  | some ms =>
    have e1 : askO h b l = (0, ms) := by rw [askO, if_pos hq, hr]
    have e2 : resO h b l = (0, rowsOf h ms) := by rw [resO, if_pos hq, hr]
    rw [e1] at hs ⊢
    rw [e2]
    have hms := runF_len hr (okQ_len hq'.1).1
    have hhd := okQ_head hq'.1
    have hhl := (okQ_len hq'.1).2.2
    have hs : SlV w4 v ms := hs
    refine cF rfl (SlR.ln hs ⟨fun out t w' => ∃ i : Nat, t = i ∧ i ≤ ms.length ∧ OwnX (fun b => b < w4.heap.size) 1 repI w' w4.heap.size 22 out ((ms.take i).map fun m => h.map (ofV m)) ∧ Grow w4 w', fun _ t _ => ms.length - t.toNat, ⟨0, rfl, by omega, OwnX.nil _ _ _, Grow.refl _⟩, ?_⟩)
    rintro - out t w16 ⟨i, rfl, hi, hout, g16⟩
    refine condD (fun hlt => ?_) (fun hge => ?_)
    · have hil : i < ms.length := by omega
      refine SlV.loc (SlR.grow hs g16) rfl hil rfl fun w22 g22 s22 hV w24 hw24 => ?_
      have g24 := alloc_grow hw24
      have g224 := (g16.trans g22).trans g24
      have hrow0 : OwnI w24 w22.heap.size (.slice (some ⟨w22.heap.size, 0, none⟩) 0 0) [] := by
        have := Own.lit (B := w22.heap.size) (n := 0) (sz := 1) hw24 (Nat.le_refl _) (by omega) (by simp)
        simpa [OwnI] using this
      refine ⟨hv, (g4.trans g224).cell (boxc hw1 0 _ rfl), (hh.grow (g04.trans g224)).ln ?_⟩
      refine ⟨fun row t w' => ∃ j : Nat, t = j ∧ j ≤ h.length ∧ OwnI w' w22.heap.size row ((h.take j).map (ofV ms[i])) ∧ Fr (fun i => w22.heap.size ≤ i) w24 w', fun _ t _ => h.length - t.toNat, ⟨0, rfl, by omega, by simpa using hrow0, Fr.refl _ _⟩, ?_⟩
      rintro - row t w34 ⟨j, rfl, hj, hrow, hf⟩
      have g34 : Grow w22 w34 := g24.fr hf fun i hi e => by omega
      refine condD (fun hlt2 => ?_) (fun hge2 => ?_)
      · have hjl : j < h.length := by omega
        have hx := hhd _ (List.getElem_mem hjl)
        refine (hh.grow (g04.trans ((g16.trans g22).trans g34))).rd rfl hjl ⟨by omega, ms[i].getD (h[j]).toNat 0, cells8 (hV.grow g34) (by omega), fun w40 hw40 => ?_⟩
        refine papp1 el_int hw40 hrow rfl (by have := g34.size; omega) (by simp; omega) (by omega) ?_
        intro v' w' ho2 hf2 _
        refine ⟨by unfold inR; omega, ⟨j + 1, by omega, by omega, ?_, ?_⟩, by dsimp only; omega⟩
        · rw [List.take_succ_eq_append_getElem hjl, List.map_append]
          have e3 : ofV ms[i] h[j] = ms[i].getD (h[j]).toNat 0 := by rw [ofV, if_neg (by omega)]
          simp only [List.map_cons, List.map_nil, e3]
          unfold OwnI
          rw [List.length_append, List.map_append]
          exact ho2
        · exact hf.trans ((Fr.of_grow (alloc_grow hw40)).trans (hf2.mono fun k _ e => (Own.lt hrow e.symm).1))
      · have hjl : j = h.length := by omega
        subst hjl
        rw [List.take_length] at hrow
        refine ⟨Own.one hrow, fun w43 hw43 => ?_⟩
        have hs4 := g16.size
        have hb4 := g34.size
        refine pappX1 el_row (by omega) (cs := [row]) (y := h.map (ofV ms[i])) (hout.grow (g22.trans g34)) hw43 (elx_row hrow (fun b hb => by have hb : b < w4.heap.size := hb; omega) fun b hb => by have := (hout.lt hb).2; omega) (by omega) (by simp; omega) (by omega) ?_
        intro v2 w2 ho2 hf2 _ _
        refine ⟨by unfold inR; omega, ⟨i + 1, by omega, by omega, ?_, ?_⟩, by dsimp only; omega⟩
        · rw [List.take_succ_eq_append_getElem hil, List.map_append]
          exact ho2
        · exact ((g16.trans g22).trans (g34.trans (alloc_grow hw43))).fr hf2 fun k hk e => by have := (hout.lt e.symm).1; omega
    · have hil : i = ms.length := by omega
      subst hil
      rw [List.take_length] at hout
      refine (sortL_c hout (by simp; omega)).mono ?_
      rintro e w46 ⟨l', rfl, hp, hpw, ho46, hf46⟩
      refine ⟨rfl, (compactL_c ho46).mono ?_⟩
      rintro e w48 ⟨v', rfl, ho48, hf48, hbl⟩
      refine ⟨_, rfl, v', rfl, ?_, ?_⟩
      · have e3 := ddL_srt hp hpw
        rw [e3] at ho48
        exact (OwnX.base ho48 g04.size).weaken fun b hb => Nat.lt_of_lt_of_le hb g04.size
      · refine g04.trans (g16.fr (hf46.trans hf48) fun k hk e => ?_)
        have := (hout.lt e.symm).1
        omega
theorem results_c {w : World} {hv bv fv : Value} {h : List Int} {b l : List Atm} (hh : SlI w hv h) (hb : SlA w bv b) (hl : SlA w fv l) : Calls Try.prog 45 #[.agg #[hv, bv], fv] w fun e w' => ∃ v, e = .returned (.tuple #[v, .int .i64 (resO h b l).1]) ∧ SlL w' v (resO h b l).2 ∧ Grow w w' := by
  refine (results_o hh hb hl).mono ?_
  rintro e w' ⟨v, rfl, ho, g⟩
  exact ⟨v, rfl, ho.slX, g⟩
end Go.Proofs.Ytleiddajojgmmaa

/- Contracts of the reference: what comes before, rising lists of slices, keys of facts, what fits. No condition. -/
namespace Go.Proofs.Ytleiddajojgmmaa
open Go Go.RowKit VC
set_option linter.unusedSimpArgs false
set_option linter.unusedVariables false

/-! ## Parts of a slice -/
section
variable {α : Type} {k : Nat} {rep : World → List Value → α → Prop}
theorem SlX.upto {w : World} {v : Value} {xs : List α} (h : SlX k rep w v xs) {i : Nat} {ik : IntKind} {z : Int} (hz : z = (i : Int)) (hi : i ≤ xs.length) {K : Value → Prop} (hk : ∀ v', SlX k rep w v' (xs.take i) → K v') :
    ∃ (a : Option Addr) (n c : Nat), v = .slice a n c ∧ ∃ l hh m : Nat, sbR none (some (.int ik z)) none n c l hh m ∧ K (.slice (if m = l then a else a.map (·.add (l * k))) (hh - l) (m - l)) := by
  subst hz
  obtain ⟨a, c, rfl, h1, h2, h3, h4⟩ := h.ex
  have hl : (xs.take i).length = i := by simp; omega
  refine ⟨a, _, c, rfl, 0, i, c, ⟨rfl, rfl, rfl, by simp, by omega, by omega, by omega⟩, hk _ ⟨a, c, ?_, by omega, h2, h3, fun j hj => ?_⟩⟩
  · rw [hl]
    by_cases hc : c = 0
    · simp [hc]
    · rw [if_neg hc]
      cases a <;> simp [Addr.add]
  · obtain ⟨b, cs, e1, e2, e3, e4⟩ := h4 j (by omega)
    exact ⟨b, cs, e1, e2, e3, by rw [List.getElem_take]; exact e4⟩
end
/-! ## Put -/
theorem SlX.imp {α : Type} {k : Nat} {rep rep' : World → List Value → α → Prop} {w : World} {v : Value} {xs : List α} (h : SlX k rep w v xs) (hi : ∀ cs x, rep w cs x → rep' w cs x) : SlX k rep' w v xs := by
  obtain ⟨a, c, e, h1, h2, h3, h4⟩ := h.ex
  exact ⟨a, c, e, h1, h2, h3, fun i hi' => by
    obtain ⟨b, cs, e1, e2, e3, e4⟩ := h4 i hi'
    exact ⟨b, cs, e1, e2, e3, hi _ _ e4⟩⟩
/-! ## Keys of facts -/
end Go.Proofs.Ytleiddajojgmmaa

/- Contracts of the reference: what fits. No condition. -/
namespace Go.Proofs.Ytleiddajojgmmaa
open Go Go.RowKit VC
set_option linter.unusedSimpArgs false
set_option linter.unusedVariables false

theorem set_same {m : Vals} {k : Nat} {y : Int} (hk : k < m.length) (h : m.getD k 0 = y) : m.set k y = m := by
  apply List.ext_getElem (by simp)
  intro i h1 h2
  rw [List.getElem_set]
  split
  · rename_i e
    subst e
    rw [← h]; simp [List.getD, hk]
  · rfl
end Go.Proofs.Ytleiddajojgmmaa

/- Contracts of the reference: all matches, results and their number. No condition. -/
namespace Go.Proofs.Ytleiddajojgmmaa
open Go Go.RowKit VC
set_option linter.unusedSimpArgs false
set_option linter.unusedVariables false

abbrev OwnW (w : World) (B : Nat) (v : Value) (ms : List Vals) : Prop := Own w B 137 8 v ms.length (ms.flatMap encV)
theorem OwnW.slV {w : World} {B : Nat} {v : Value} {ms : List Vals} (h : OwnW w B v ms) : SlV w v ms := Own.slR h
end Go.Proofs.Ytleiddajojgmmaa

/- Contracts: the reference's results, equal rows, a fact is matched; the copies that the statements make. No condition. -/
namespace Go.Proofs.Ytleiddajojgmmaa
open Go Go.RowKit VC
set_option linter.unusedSimpArgs false
set_option linter.unusedVariables false

/-! ## Equal rows -/
/-! ## A fact is matched -/
theorem slA_one {w w' : World} {r : Int} {u : Value} {xs : List Int} {e : TypeId} (hw : w' = w.alloc (.cells #[.int .i64 r, u] e)) (hu : SlI w' u xs) : SlA w' (.slice (some ⟨w.heap.size, 0, none⟩) 1 1) [(r, xs)] := by
  have hl := Own.lit (B := w.heap.size) (n := 1) (sz := 2) hw (Nat.le_refl _) (by omega) (by simp)
  have := SlX.of_cells (k := 2) (rep := repA) (w := w') (v := .slice (some ⟨w.heap.size, 0, none⟩) 1 1) (ps := [([.int .i64 r, u], (r, xs))]) (fun p hp => by
    obtain rfl : p = ([.int .i64 r, u], (r, xs)) := by simpa using hp
    exact ⟨rfl, u, rfl, hu⟩) (by simpa using hl.slC)
  simpa using this
theorem slI_lit {w w' : World} {cs : Array Value} {xs : List Int} {e : TypeId} (hw : w' = w.alloc (.cells cs e)) (hc : cs.toList = xs.map VC.encI) (hl : xs.length ≤ 1000) : SlI w' (.slice (some ⟨w.heap.size, 0, none⟩) xs.length xs.length) xs := by
  have h := Own.lit (B := w.heap.size) (n := xs.length) (sz := 1) hw (Nat.le_refl _) (by omega) (by
    rw [← Array.length_toList, hc]; simp)
  rw [hc] at h
  exact Own.slI h
/-! ## The copies say the same -/
theorem trA_id {a : Atm} (h : a.2.length ≤ 9) : trA a = a := by
  unfold trA
  rw [List.take_of_length_le h]
theorem trA_len {a : Atm} (h : (trA a).2.length ≤ 3) : a.2.length ≤ 3 := by
  unfold trA at h
  simp only [List.length_take] at h
  omega
theorem map_trA {l : List Atm} (h : ∀ a ∈ l, a.2.length ≤ 9) : l.map trA = l := by
  conv => rhs; rw [← List.map_id l]
  exact List.map_congr_left fun a ha => trA_id (h a ha)
theorem trB_of {h : List Int} {b : List Atm} (hq : okQ h b = true) : trB b = b ∧ h.take 9 = h := by
  obtain ⟨h1, h2, h3⟩ := okQ_len hq
  have hb : ∀ a ∈ b, a.2.length ≤ 9 := fun a ha => by
    simp only [okQ, Bool.and_eq_true, List.all_eq_true] at hq
    have := (okA_iff.1 (hq.1.2 a ha)).2.2.2.1
    omega
  exact ⟨by unfold trB; rw [List.take_of_length_le (by omega), map_trA hb], List.take_of_length_le (by omega)⟩
theorem okQ_tr (h : List Int) (b : List Atm) : okQ (h.take 9) (trB b) = okQ h b := by
  rw [Bool.eq_iff_iff]
  constructor
  · intro hq
    have h0 := hq
    obtain ⟨h1, h2, h3⟩ := okQ_len hq
    have hbl : b.length ≤ 5 := by unfold trB at h2; simp at h2; omega
    have hhl : h.length ≤ 4 := by simp at h3; omega
    have hb : ∀ a ∈ b, a.2.length ≤ 9 := fun a ha => by
      simp only [okQ, Bool.and_eq_true, List.all_eq_true] at hq
      have hm : trA a ∈ trB b := List.mem_map_of_mem (by rw [List.take_of_length_le (by omega)]; exact ha)
      have := trA_len (okA_iff.1 (hq.1.2 _ hm)).2.2.2.1
      omega
    have e1 : trB b = b := by unfold trB; rw [List.take_of_length_le (by omega), map_trA hb]
    rwa [e1, List.take_of_length_le (by omega)] at h0
  · intro hq
    obtain ⟨e1, e2⟩ := trB_of hq
    rwa [e1, e2]
theorem ofS_c {w : World} {hv v : Value} {h : List Int} {l : List Atm} (hh : SlI w hv h) (hs : SlA w v l) : Calls Try.prog 19 #[.agg #[hv, v]] w fun e w' => ∃ hv' v', e = .returned (.agg #[hv', v']) ∧ SlI w' hv' (h.take 9) ∧ SlA w' v' (trB l) ∧ Grow w w' := by
  refine (of_c hh hs).mono ?_
  rintro e w' ⟨a, b, rfl, h1, h2, g, -⟩
  exact ⟨a, b, rfl, Own.slI h1, h2.slX, g⟩
theorem varsL_bit : ∀ {xs : List Int} {i : Nat}, (varsL xs).testBit i = true ↔ (i : Int) ∈ xs
  | [], i => by simp [varsL]
  | x :: r, i => by
    rw [varsL, Nat.testBit_or, Bool.or_eq_true, varsL_bit, List.mem_cons]
    refine or_congr_left ?_
    split
    · rename_i h
      rw [Nat.testBit_two_pow]
      simp; omega
    · simp; omega
theorem varsB_bit : ∀ {b : List Atm} {i : Nat}, (varsB b).testBit i = true ↔ (i : Int) ∈ b.flatMap Prod.snd
  | [], i => by simp [varsB]
  | a :: r, i => by rw [varsB, Nat.testBit_or, Bool.or_eq_true, varsB_bit, varsL_bit, List.flatMap_cons, List.mem_append]
end Go.Proofs.Ytleiddajojgmmaa
