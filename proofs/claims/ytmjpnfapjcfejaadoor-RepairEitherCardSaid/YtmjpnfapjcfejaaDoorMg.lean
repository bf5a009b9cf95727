/- Contracts: facts are sorted by the library; once: facts in their order, each once. No condition. -/
import Derived.Test.YtmjpnfapjcfejaaDoorMf
import Derived.Test.YtmjpnfapjcfejaaDoorVw
import Derived.Test.YtmjpnfapjcfejaaDoorSh
namespace Go.Proofs.YtmjpnfapjcfejaaDoor
open Go Go.RowKit VC Go.Sort Go.Shelf
set_option linter.unusedSimpArgs false
set_option linter.unusedVariables false

theorem agg_fact (w : World) : (isAgg 57).run Tryd.prog w = .ok true w := by
  have h : (Tryd.prog.underlying 57).isSome = true := by kernel_rfl
  have hm : (match Tryd.prog.underlying 57 with | some (.struct _) => true | _ => false) = true := by kernel_rfl
  obtain ⟨d, hd⟩ := Option.isSome_iff_exists.1 h
  rw [hd] at hm
  rw [isAgg_run hd]
  cases d <;> first | rfl | (simp at hm; done)
theorem size_fact (w : World) : (Go.sizeOf 57).run Tryd.prog w = .ok 2 w := by
  have h : Tryd.prog.cellsOf 57 = 2 := by kernel_rfl
  have := cellsOf_run (P := Tryd.prog) (t := 57) (by rw [h]; decide) w
  rwa [h] at this
theorem sortF_c {T : Nat → Prop} {w : World} {B : Nat} {v : Value} {l : List Atm} (ho : OwnX T 2 repA w B 57 v l) (hlen : l.length ≤ 1000000) : Calls Tryd.prog 112 #[v, .func (.func 113) #[] #[]] w fun e w' =>
    ∃ l', e = .returned (.tuple #[]) ∧ l'.Perm l ∧ l'.Pairwise (fun a b => cmpA a b ≤ 0) ∧ OwnX T 2 repA w' B 57 v l' ∧ FrO v w w' := by
  obtain ⟨ps, hps, hel, hown⟩ := ho.ex
  have hpl : ps.length = l.length := by rw [← hps, List.length_map]
  have none : ∀ a c, l = [] → Calls Tryd.prog 112 #[.slice a 0 c, .func (.func 113) #[] #[]] w fun e w' => e = .returned (.tuple #[]) ∧ w' = w := fun a c _ =>
    AnyF.slices_SortFunc_none Tryd.laysSlF06_f112 a c _ w
  rcases hown.2 with ⟨rfl, h0⟩ | ⟨g, cap, cur, rfl, hb, hgg, hnc, hcm, hcs, htake⟩
  · have hl : l = [] := by simpa using h0
    subst hl
    refine (none _ _ rfl).mono ?_
    rintro e w' ⟨rfl, rfl⟩
    exact ⟨[], rfl, List.Perm.refl _, List.Pairwise.nil, ho, Fr.refl _ _⟩
  by_cases hl : l = []
  · subst hl
    refine (none _ _ rfl).mono ?_
    rintro e w' ⟨rfl, rfl⟩
    exact ⟨[], rfl, List.Perm.refl _, List.Pairwise.nil, ho, Fr.refl _ _⟩
  have hgw : g < w.heap.size := (Array.getElem?_eq_some_iff.1 hgg).1
  have hpos : 0 < ps.length := by
    rcases Nat.eq_zero_or_pos l.length with h | h
    · exact absurd (by simpa using h) hl
    · omega
  let α := { p : List Value × Atm // ElX T 2 repA (.slice (some ⟨g, 0, Option.none⟩) l.length cap) w p }
  haveI : Inhabited α := ⟨⟨ps[0], hel _ (List.getElem_mem hpos)⟩⟩
  let enc : α → List Value := fun p => p.1.1
  have hk : ∀ x, (enc x).length = 2 := fun x => x.2.len
  let d : Array α := (ps.pmap (fun p hp => (⟨p, hp⟩ : α)) hel).toArray
  have hds : d.size = l.length := by simp [d, hpl]
  have hfl : d.toList.flatMap enc = ps.flatMap Prod.fst := by
    simp only [d, enc]
    have : ∀ (qs : List (List Value × Atm)) (hq : ∀ p ∈ qs, ElX T 2 repA (.slice (some ⟨g, 0, Option.none⟩) l.length cap) w p), (qs.pmap (fun p hp => (⟨p, hp⟩ : α)) hq).flatMap (fun p => p.1.1) = qs.flatMap Prod.fst := by
      intro qs
      induction qs with
      | nil => intro _; rfl
      | cons q r ih => intro hq; simp only [List.pmap_cons, List.flatMap_cons]; rw [ih]
    exact this ps hel
  have hcont : d.toList.map (fun p => p.1.2) = l := by
    refine Eq.trans ?_ hps
    simp only [d, List.map_pmap]
    rw [List.pmap_eq_map]
  have hH : HoldsK enc 2 w g 0 d := by
    unfold HoldsK
    rw [flatK_eq hk (by omega), hfl]
    exact Own.holds hown
  have eg := callAll 113 (by kernel_rfl)
  have hcmp : CmpLays Tryd.prog 113 #[] enc 2 (fun x y => cmpA x.1.2 y.1.2) g 0 d.size w := by
    intro m os dk hdk x y
    have hfr : FrT T (.slice (some ⟨g, 0, Option.none⟩) l.length cap) w (sortWorldK enc 2 w g 0 m dk os) := (put_fr (n := m) (os := os) (flatK enc 2 dk)).mono fun b _ e => .inr (by rw [e]; rfl)
    obtain ⟨u, h1, hu⟩ := x.2.rep _ hfr
    obtain ⟨u', h1', hu'⟩ := y.2.rep _ hfr
    have e1 : enc x = [.int .i64 x.1.2.1, u] := h1
    have e2 : enc y = [.int .i64 y.1.2.1, u'] := h1'
    rw [e1, e2]
    refine (compareA_c (r := x.1.2.1) (s := y.1.2.1) hu hu').mono ?_
    rintro e w' ⟨rfl, hg, hd⟩
    exact ⟨rfl, growD hg hd⟩
  have hn : l.length = d.size := hds.symm
  have key := Tryd.slices_SortFunc_facts 2 agg_fact size_fact enc hk (fun x => x.2.one) (fun x y => cmpA x.1.2 y.1.2) (swoL (α := α) fun x => keyA x.1.2) 113 #[] g 0 cap d w eg hcmp hH hgw (by omega)
  rw [hds] at key
  refine key.mono ?_
  rintro e w' ⟨rfl, d', n, os, hperm, hsort, rfl⟩
  have hds' : d'.size = l.length := hperm.1.trans hds
  have hp : d'.toList.Perm d.toList := by
    have := hperm.2.2
    have a1 : d'.extract 0 l.length = d' := by rw [← hds']; simp
    have a2 : d.extract 0 l.length = d := by rw [← hds]; simp
    rwa [a1, a2] at this
  have hf : FrO (.slice (some ⟨g, 0, Option.none⟩) l.length cap) w (sortWorldK enc 2 w g 0 n d' os) := (put_fr (n := n) (os := os) (flatK enc 2 d')).mono fun b _ e => by rw [e]; rfl
  refine ⟨d'.toList.map (fun p => p.1.2), rfl, ?_, ?_, ⟨d'.toList.map (fun p => p.1), by rw [List.map_map]; rfl, fun p hp' => ?_, ?_⟩, hf⟩
  · have := hp.map (fun p => p.1.2)
    rwa [hcont] at this
  · rw [List.pairwise_map, List.pairwise_iff_getElem]
    intro i j hi hj hij
    have hi' : i < d'.size := by simpa using hi
    have hj' : j < d'.size := by simpa using hj
    have := hsort i j (Nat.zero_le _) hij (by omega)
    rw [getElem!_pos d' j hj', getElem!_pos d' i hi'] at this
    simp only [ltOf, decide_eq_false_iff_not] at this
    have h3 := cmpL_swap (keyA d'[i].1.2) (keyA d'[j].1.2)
    simp only [Array.getElem_toList]
    show cmpL _ _ ≤ 0
    have h4 : ¬ cmpL (keyA d'[j].1.2) (keyA d'[i].1.2) < 0 := this
    omega
  · obtain ⟨q, _, rfl⟩ := List.mem_map.1 hp'
    exact q.2.later (hf.mono fun b _ e => .inr e)
  · have e1 : (d'.toList.map (fun p => p.1)).flatMap Prod.fst = d'.toList.flatMap enc := by rw [List.flatMap_map]
    have e2 : (d'.toList.map (fun p => p.1.2)).length = l.length := by simp [hds']
    rw [e1, e2]
    have hb2 := Own.behind (m := n) (os := os) (ts := d'.toList.flatMap enc) hown (by rw [flat_len hk]; simp [hds'])
    have e3 : sortWorldK enc 2 w g 0 n d' os = Go.Sort.grow (putRow id (Go.Sort.ahead w n) g 0 (d'.toList.flatMap enc).toArray) os := by
      rw [← flatK_eq hk (by omega)]; rfl
    rw [e3]; exact hb2
/-! ## Each once -/
theorem cmpA_trans {a b c : Atm} (h1 : cmpA a b < 0) (h2 : cmpA b c < 0) : cmpA a c < 0 := by
  have := (swoL keyA).trans a b c (by simpa [ltOf, cmpA] using h1) (by simpa [ltOf, cmpA] using h2)
  simpa [ltOf, cmpA] using this
theorem cmpA_lt {a b : Atm} (h : cmpA a b ≤ 0) (hne : a ≠ b) : cmpA a b < 0 := by
  have : cmpA a b ≠ 0 := fun e => hne (cmpA_zero.1 e)
  omega
theorem mem_ddp {α : Type} [DecidableEq α] {z : α} : ∀ {r : List α} {y : α}, z ∈ y :: ddp y r ↔ z ∈ y :: r
  | [], y => by simp [ddp]
  | x :: r, y => by
    rw [ddp]
    split
    · rename_i e
      subst e
      have := mem_ddp (z := z) (r := r) (y := x)
      simp at this ⊢
      rw [this]
    · have := mem_ddp (z := z) (r := r) (y := x)
      simp only [List.mem_cons] at this ⊢
      rw [this]
theorem mem_dd {α : Type} [DecidableEq α] {z : α} {l : List α} : z ∈ dd l ↔ z ∈ l := by
  cases l with
  | nil => rfl
  | cons a r => exact mem_ddp
theorem ddp_sorted : ∀ {r : List Atm} {y : Atm}, (y :: r).Pairwise (fun a b => cmpA a b ≤ 0) → (y :: ddp y r).Pairwise (fun a b => cmpA a b < 0)
  | [], y, _ => by simp [ddp]
  | x :: r, y, h => by
    obtain ⟨h1, h2⟩ := List.pairwise_cons.1 h
    have ih := ddp_sorted h2
    rw [ddp]
    split
    · rename_i e
      subst e; exact ih
    · rename_i hne
      have hyx := cmpA_lt (h1 x (List.mem_cons_self ..)) (fun e => hne e.symm)
      refine List.pairwise_cons.2 ⟨fun z hz => ?_, ih⟩
      rcases List.mem_cons.1 hz with rfl | hz
      · exact hyx
      · exact cmpA_trans hyx ((List.pairwise_cons.1 ih).1 z hz)
theorem dd_sorted {l : List Atm} (h : l.Pairwise (fun a b => cmpA a b ≤ 0)) : (dd l).Pairwise (fun a b => cmpA a b < 0) := by
  cases l with
  | nil => exact List.Pairwise.nil
  | cons a r => exact ddp_sorted h
/-- Facts in their order, each once. -/
structure OnceL (l l' : List Atm) : Prop where
  inc : l'.Pairwise (fun a b => cmpA a b < 0)
  mem : ∀ a, a ∈ l' ↔ a ∈ l
  len : l'.length ≤ l.length
theorem dd_len {α : Type} [DecidableEq α] : ∀ (l : List α), (dd l).length ≤ l.length := by
  have : ∀ (r : List α) (y : α), (ddp y r).length ≤ r.length := by
    intro r
    induction r with
    | nil => intro y; simp [ddp]
    | cons x r ih =>
      intro y
      rw [ddp]
      have := ih x
      split <;> simp <;> omega
  intro l
  cases l with
  | nil => exact Nat.le_refl _
  | cons a r => have := this r a; simp [dd]; omega
theorem once_c {w : World} {v : Value} {l : List Atm} (hs : SlA w v l) (hlen : l.length ≤ 1000000) : Calls Tryd.prog 97 #[v] w fun e w' => ∃ v' l', e = .returned v' ∧ OnceL l l' ∧ OwnO w.heap.size w' w.heap.size v' l' ∧ Grow w w' := by
  refine f97_calls _ ?_
  refine (cloneF_c hs hlen).mono ?_
  rintro e w1 ⟨v1, rfl, ho1, g1⟩
  refine ⟨v1, rfl, (sortF_c ho1 hlen).mono ?_⟩
  rintro e w2 ⟨l2, rfl, hp, hpw, ho2, hf2⟩
  refine ⟨rfl, (compactF_c ho2).mono ?_⟩
  rintro e w3 ⟨v3, rfl, ho3, hf3, hb⟩
  refine ⟨v3, rfl, v3, dd l2, rfl, ⟨dd_sorted hpw, fun a => mem_dd.trans hp.mem_iff, ?_⟩, ho3, ?_⟩
  · have := dd_len l2
    rw [hp.length_eq] at this; exact this
  · refine g1.fr (hf2.trans hf3) fun i hi e => ?_
    have := (ho1.lt e.symm).1
    omega
end Go.Proofs.YtmjpnfapjcfejaaDoor
