/- Contracts: the graph of the variables of a query, by the program and by the reference. No condition. -/
import Derived.Test.YtleiddajojgmmaaDoorUc
import Derived.Test.YtleiddajojgmmaaDoorUf
import Derived.Test.YtleiddajojgmmaaDoorMc
import Derived.Test.YtleiddajojgmmaaDoorTa
import Derived.Test.YtleiddajojgmmaaDoorUb
import Derived.Test.YtleiddajojgmmaaDoorGm
namespace Go.Proofs.YtleiddajojgmmaaDoor
open Go Go.RowKit VC
set_option linter.unusedSimpArgs false
set_option linter.unusedVariables false

theorem pinU {α : Type} {k : Nat} {rep : World → List Value → α → Prop} {w0 w : World} {v : Value} {xs : List α} (h : SlX k rep w0 v xs) (g : Grow w0 w) : SlX k (fun _ cs x => rep w0 cs x) w v xs := by
  obtain ⟨a, c, e, h1, h2, h3, h4⟩ := h.ex
  exact ⟨a, c, e, h1, h2, h3, fun i hi => by
    obtain ⟨b, cs, e1, e2, e3, e4⟩ := h4 i hi
    exact ⟨b, cs, e1, e2, fun t u ht => g.cell (e3 t u ht), e4⟩⟩
theorem locU {P : Program} {w0 w : World} {v : Value} {l : List Atm} (h : SlA w0 v l) (g : Grow w0 w) {i : Nat} {j : Int} (hj : j = (i : Int)) (hi : i < l.length) {zs : Array Value} (hz : zs.size = 2) {t : TypeId} {K : World → Prop}
    (hk : ∀ w2 u, Grow w w2 → w.heap.size < w2.heap.size → SlI w0 u l[i].2 → w2.cell? (Addr.add ⟨w.heap.size, 0, none⟩ 0) = some (.int .i64 l[i].1) → w2.cell? (Addr.add ⟨w.heap.size, 0, none⟩ 1) = some u → K w2) :
    ∃ (a : Addr) (m c : Nat), v = .slice (some a) m c ∧ ((0 : Int) ≤ j ∧ j < (m : Int)) ∧ ∃ cs : List Value, cs.length = 2 ∧ (∀ t u, cs[t]? = some u → w.cell? (Addr.add (a.add (Int.toNat j * 2)) t) = some u) ∧
      ∀ w1, w1 = w.alloc (.cells zs t) → ∃ cs' : Array Value, (Value.agg cs.toArray) = Value.agg cs' ∧ cs'.size = 2 ∧ ∃ w2 : World, (storeCells ⟨w.heap.size, 0, none⟩ cs'.toList).run P w1 = .ok () w2 ∧ K w2 := by
  refine SlX.rd (pinU h g) hj hi fun cs hl hr w1 hw1 => ?_
  obtain ⟨u, rfl, hu⟩ := hr
  have := setR (P := P) (cs := [.int .i64 l[i].1, u]) hw1 (by rw [hz]; rfl) (by
    intro y hy
    simp at hy
    rcases hy with rfl | rfl
    · rfl
    · exact hu.one.2) (K := K) fun w2 hg hs hc => hk w2 u hg hs hu (hc 0 _ rfl) (hc 1 _ rfl)
  rw [hz] at this
  exact this
theorem indexU_c {w : World} {v : Value} {xs : List Int} {x : Int} (hs : SlI w v xs) : Calls Tryd.prog 22 #[v, .int .i64 x] w (Ret w (.int .i64 (idxOf (fun y => decide (x = y)) xs))) := by
  refine f22_calls _ _ ?_
  have hle := hs.len_le
  refine hs.ln ⟨fun t w' => ∃ k : Nat, t = k ∧ k ≤ xs.length ∧ w' = w ∧ ∀ j (hj : j < xs.length), j < k → ¬ x = xs[j], fun t _ => xs.length - t.toNat, ⟨0, rfl, by omega, rfl, fun j _ h => by omega⟩, ?_⟩
  rintro - t w1 ⟨k, rfl, hk, rfl, hno⟩
  refine condD (fun hlt => ?_) (fun hge => ?_)
  · have hkl : k < xs.length := by omega
    refine hs.rd rfl hkl (condD (fun he => ⟨?_, Grow.refl _⟩) fun he => ⟨by unfold inR; omega, ⟨k + 1, by omega, by omega, rfl, fun j hj hjk => ?_⟩, by dsimp only; omega⟩)
    · rw [idxOf_some hkl (decide_eq_true he) fun j hj hlt => decide_eq_false (hno j hj hlt)]
    · by_cases e : j = k
      · subst e; exact he
      · exact hno j hj (by omega)
  · have : idxOf (fun y => decide (x = y)) xs = -1 := idxOf_none fun j hj => decide_eq_false (hno j hj (by omega))
    exact ⟨by rw [this], Grow.refl _⟩
theorem idx_in {xs : List Int} {x : Int} (hx : x ∈ xs) : ∃ (k : Nat) (hk : k < xs.length), idxOf (fun y => decide (x = y)) xs = k ∧ xs[k] = x := by
  unfold idxOf
  cases hf : xs.findIdx? (fun y => decide (x = y)) with
  | none =>
    have := List.findIdx?_eq_none_iff.1 hf x hx
    simp at this
  | some k =>
    obtain ⟨hk, h2, -⟩ := List.findIdx?_eq_some_iff_getElem.1 hf
    exact ⟨k, hk, rfl, (of_decide_eq_true h2).symm⟩
theorem neg_c {w : World} {x : Int} : Calls Tryd.prog 21 #[.int .i64 x] w (Ret w (.bool (decide (x < 0)))) := by
  refine f21_calls _ ?_
  exact ⟨rfl, Grow.refl w⟩
theorem flat_le : ∀ {l : List Atm}, (∀ a ∈ l, a.2.length ≤ 3) → (l.flatMap Prod.snd).length ≤ 3 * l.length
  | [], _ => by simp
  | a :: r, h => by
    have h1 := h a (List.mem_cons_self ..)
    have h2 := flat_le fun x hx => h x (List.mem_cons_of_mem _ hx)
    rw [List.flatMap_cons, List.length_append, List.length_cons]
    omega
/-- An array of the call's own that reads as a graph. -/
abbrev OwnG (w : World) (B : Nat) (v : Value) (G : List Nat) : Prop := OwnI w B v (ofN G)
theorem ownG_rd {w : World} {B A n : Nat} {G : List Nat} (h : OwnG w B (.slice (some ⟨A, 0, none⟩) n n) G) (hn : G.length = n) {i : Nat} (hi : i < n) : w.cell? (Addr.add ⟨A, 0, none⟩ (Int.toNat ((i : Nat) : Int) * 1)) = some (.int .i64 ((G.getD i 0 : Nat) : Int)) := by
  have hl : (ofN G).length = n := by rw [ofN_len]; exact hn
  have h2 : Own w B 3 1 (.slice (some ⟨A, 0, none⟩) n n) n ((ofN G).map VC.encI) := by
    have := h
    unfold OwnG OwnI at this
    rw [hl] at this
    exact this
  have := own_rd h2 (i := i) (by omega)
  rw [Int.toNat_natCast, Nat.mul_one, Addr.add0, this]
  have e : (ofN G)[i]'(by omega) = ((G.getD i 0 : Nat) : Int) := by simp [ofN, List.getD, show i < G.length by omega]
  rw [e]
theorem ownG_put {w : World} {B A n : Nat} {G : List Nat} (h : OwnG w B (.slice (some ⟨A, 0, none⟩) n n) G) (hn : G.length = n) {i : Nat} (hi : i < n) {z : Int} {y : Nat} (hz : z = (y : Int)) {K : World → Prop} (hk : ∀ w', OwnG w' B (.slice (some ⟨A, 0, none⟩) n n) (G.set i y) → Fr (fun b => b = A) w w' → K w') :
    (∃ old, w.cell? (Addr.add ⟨A, 0, none⟩ (Int.toNat ((i : Nat) : Int) * 1)) = some old) ∧ w.frozen? (Addr.add ⟨A, 0, none⟩ (Int.toNat ((i : Nat) : Int) * 1)) = false ∧ ∀ w', w' = w.setCell (Addr.add ⟨A, 0, none⟩ (Int.toNat ((i : Nat) : Int) * 1)) (.int .i64 z) → K w' := by
  subst hz
  have hl : (ofN G).length = n := by rw [ofN_len]; exact hn
  have h2 : Own w B 3 1 (.slice (some ⟨A, 0, none⟩) n n) n ((ofN G).map VC.encI) := by
    have := h
    unfold OwnG OwnI at this
    rw [hl] at this
    exact this
  rw [Int.toNat_natCast, Nat.mul_one, Addr.add0]
  refine ⟨(Own.wr h2 hi).1, (Own.wr h2 hi).2, fun w' hw' => hk w' ?_ (set_fr hw')⟩
  have h9 := Own.set h2 hi hw'
  have e : ((ofN G).map VC.encI).set i (.int .i64 ((y : Nat) : Int)) = (ofN (G.set i y)).map VC.encI := by
    unfold ofN
    rw [show Value.int .i64 ((y : Nat) : Int) = VC.encI ((y : Nat) : Int) from rfl, List.map_set, List.map_set]
  rw [e] at h9
  have hl2 : (ofN (G.set i y)).length = n := by rw [ofN_len, List.length_set]; exact hn
  unfold OwnG OwnI
  rw [hl2]
  exact h9
/-- FromQuery. -/
theorem fromQ_c {w : World} {hv bv : Value} {h : List Int} {b : List Atm} (sh : SlI w hv h) (sb : SlA w bv b) :
    Calls Tryd.prog 5 #[.agg #[hv, bv]] w fun e w' => ((okQ h b = true ∧ vsI b ≠ [] ∧ ∃ v G, e = .returned (.tuple #[v, .int .i64 0]) ∧ SlI w' v (ofN G) ∧ GI (vsI b) (Rk b b.length) G) ∨ ((okQ h b = false ∨ vsI b = []) ∧ e = .returned (.tuple #[.slice none 0 0, .int .i64 2]))) ∧ Grow w w' := by
  refine f5_calls _ ⟨_, rfl, fun w1 hw1 => ?_⟩
  have g1 := alloc_grow hw1
  have hQ := RecV.new hw1
  refine ⟨[_, _], rfl, hQ.all, (rest_c (sh.grow g1) (sb.gr g1)).mono ?_⟩
  rintro e w4 ⟨hR, g4⟩
  have g04 := g1.trans g4
  rcases hR with ⟨nok, rfl⟩ | ⟨ok, l2, p2, rfl, -, -⟩
  · exact ⟨_, _, rfl, cT rfl ⟨.inr ⟨.inl nok, rfl⟩, g04⟩⟩
  have hbl := okQ_len ok
  have hA : ∀ a ∈ b, okA a = true := fun a ha => by
    have h1 := ok
    simp only [okQ, Bool.and_eq_true, List.all_eq_true] at h1
    exact h1.1.2 a ha
  have h3 : ∀ a ∈ b, a.2.length ≤ 3 := fun a ha => (okA_iff.1 (hA a ha)).2.2.2.1
  have hQ4 := hQ.grow g4
  have sb4 := sb.gr g04
  refine ⟨_, _, rfl, cF rfl ⟨_, hQ4.cell (j := 1) rfl, SlX.ln sb4 ⟨fun vars t w' => ∃ k : Nat, t = k ∧ k ≤ b.length ∧ OwnI w' w4.heap.size vars ((b.take k).flatMap Prod.snd) ∧ Grow w4 w', fun _ t _ => b.length - t.toNat, ⟨0, rfl, by omega, by simpa [OwnI] using Own.nil w4 w4.heap.size 3 1, Grow.refl _⟩, ?_⟩⟩⟩
  rintro - vars t w17 ⟨k, rfl, hk, ho, g17⟩
  refine condD (fun hlt => ?_) fun hge => ?_
  · have hkl : k < b.length := by omega
    refine SlX.loc (sb4.gr g17) rfl hkl rfl fun w23 u g23 s23 hu c0 c1 => ⟨u, c1, ?_⟩
    have hfl := flat_le (l := b.take k) fun a ha => h3 a (List.mem_of_mem_take ha)
    have h3k := h3 _ (List.getElem_mem hkl)
    rw [List.length_take] at hfl
    refine papp el_int (by omega) (Own.grow ho g23) hu (by simp) (by
      intro y hy
      obtain ⟨z, -, rfl⟩ := List.mem_map.1 hy
      rfl) (by have := (g17.trans g23).size; omega) (by omega) (by omega) ?_
    intro v' w27 ho2 hf2 _
    refine ⟨by unfold inR; omega, ⟨k + 1, by omega, by omega, ?_, (g17.trans g23).fr hf2 fun i hi e => by have := (Own.lt ho e.symm).1; omega⟩, by first | omega | (dsimp only; omega)⟩
    rw [List.take_succ_eq_append_getElem hkl, List.flatMap_append]
    unfold OwnI
    rw [List.length_append, List.map_append]
    simpa using ho2
  have hkn : k = b.length := by omega
  subst hkn
  rw [List.take_length] at ho
  have hfl := flat_le h3
  have hlt4 : ∀ {u : Value} {zs : List Int} {E : World}, OwnI E w4.heap.size u zs → ∀ i, u.ownBlock = some i → ¬ i < w4.heap.size := fun ho i e => by have := (Own.lt ho e).1; omega
  refine (sort_c ho (by omega)).mono ?_
  rintro e w28 ⟨rfl, ho28, f28⟩
  have g28 : Grow w4 w28 := g17.fr f28 fun i hi e => hlt4 ho i e.symm hi
  refine ⟨rfl, (compactI_c ho28).mono ?_⟩
  rintro e w30 ⟨v2, rfl, ho30, f30, -⟩
  have g30 : Grow w4 w30 := g28.fr f30 fun i hi e => hlt4 ho28 i e hi
  refine ⟨_, rfl, (deleteI_c (p := fun x => decide (x < 0)) ho30 ⟨21, #[], #[], rfl, by kernel_rfl, fun x hx w' => by rw [show (#[] ++ #[Value.int .i64 x] ++ #[] : Array Value) = #[Value.int .i64 x] by simp]; exact neg_c⟩).mono ?_⟩
  rintro e w33 ⟨v3, rfl, ho33, f33⟩
  have g33 : Grow w4 w33 := g30.fr f33 fun i hi e => hlt4 ho30 i e hi
  rw [sort_vs hA] at ho33
  have g033 := g04.trans g33
  have svs : SlI w33 v3 (vsI b) := Own.slI ho33
  refine ⟨_, rfl, svs.ln (condD (fun h0 => ⟨.inr ⟨.inr (List.length_eq_zero_iff.1 (by omega)), rfl⟩, g033⟩) fun hne => ?_)⟩
  obtain ⟨vs, evs⟩ : ∃ vs, vs = vsI b := ⟨_, rfl⟩
  have hvs8 : vs.length ≤ 8 := by rw [evs, vsI_len]; exact vsN_len b
  have hsrt : vs.Pairwise (· < ·) := evs ▸ vsI_lt b
  have hv0 : ∀ x ∈ vs, 0 ≤ x := fun x hx => ((mem_vsI hA).1 (evs ▸ hx)).1
  have hvin : ∀ x, 0 ≤ x → ∀ a ∈ b, x ∈ a.2 → x ∈ vs := fun x h0 a ha hx => by rw [evs]; exact (mem_vsI hA).2 ⟨h0, List.mem_flatMap.2 ⟨a, ha, hx⟩⟩
  rw [← evs] at svs hne
  obtain ⟨n, en⟩ : ∃ n, n = vs.length := ⟨_, rfl⟩
  refine svs.ln ?_
  rw [← en] at hvs8 ⊢
  refine ⟨⟨by omega, by omega, by omega, by omega⟩, fun w42 hw42 => ?_⟩
  rw [Int.toNat_natCast] at hw42 ⊢
  have g42 := alloc_grow hw42
  have z42 := alloc_size hw42
  obtain ⟨A, eA⟩ : ∃ A, A = w33.heap.size := ⟨_, rfl⟩
  have hG42 : OwnG w42 A (.slice (some ⟨A, 0, none⟩) n n) (List.replicate n 0) := by
    have := Own.made hw42 (n := n) (by omega) (Nat.le_refl _) (by omega)
    have e : (ofN (List.replicate n 0)).map VC.encI = List.replicate n (Value.int .i64 0) := by simp [ofN, VC.encI]
    have e2 : (ofN (List.replicate n 0)).length = n := by simp
    unfold OwnG OwnI
    rw [e, e2, eA]
    exact this
  rw [← eA]
  have g442 := g33.trans g42
  have g042 := g04.trans g442
  have hQ42 := hQ4.grow g442
  have sb42 := sb.gr g042
  have hGI0 : GI vs (Rk b 0) (List.replicate n 0) := by
    rw [en]
    exact (GI.nil vs).congr fun a c => (Rk_zero b a c).symm
  have lft : ∀ {E : World}, Fr (fun i => i = A) w42 E → Grow w33 E := fun hf => g42.fr hf fun i hi e => by omega
  refine ⟨_, hQ42.cell (j := 1) rfl, SlX.ln sb42 ⟨fun t w' => ∃ (k : Nat) (G : List Nat), t = k ∧ k ≤ b.length ∧ OwnG w' A (.slice (some ⟨A, 0, none⟩) n n) G ∧ GI vs (Rk b k) G ∧ Fr (fun i => i = A) w42 w', fun t _ => b.length - t.toNat, ⟨0, _, rfl, by omega, hG42, hGI0, Fr.refl _ _⟩, ?_⟩⟩
  rintro - t w51 ⟨k, G, rfl, hk, hG, hI, f51⟩
  have g3351 := lft f51
  have g051 := g033.trans g3351
  refine condD (fun hlt => ?_) fun hge => ?_
  · have hkl : k < b.length := by omega
    refine locU (sb.gr g033) g3351 rfl hkl rfl fun w57 u g57 s57 hu c0 c1 => ⟨u, c1, ?_⟩
    obtain ⟨xs, exs⟩ : ∃ xs, xs = b[k].2 := ⟨_, rfl⟩
    have hxb : ∀ x ∈ xs, 0 ≤ x → x ∈ vs := fun x hx h0 => hvin x h0 _ (List.getElem_mem hkl) (exs ▸ hx)
    rw [← exs] at hu
    have hxl : xs.length ≤ 3 := by rw [exs]; exact h3 _ (List.getElem_mem hkl)
    have lf2 : ∀ {E : World}, Fr (fun i => i = A) w57 E → Grow w33 E := fun hf => lft ((f51.trans (Fr.of_grow g57)).trans hf)
    have zA : A < w42.heap.size := by omega
    have z51 := f51.size
    have huE : ∀ {E : World}, Fr (fun i => i = A) w57 E → SlI E u xs := fun {E} hf => hu.grow (lf2 hf)
    have c1E : ∀ {E : World}, Fr (fun i => i = A) w57 E → E.cell? (Addr.add ⟨w51.heap.size, 0, none⟩ 1) = some u := fun hf => hf.cell c1 (by rw [add_block]; show ¬ w51.heap.size = A; omega)
    refine (huE (Fr.refl _ _)).ln ⟨fun t w' => ∃ (p : Nat) (G : List Nat), t = p ∧ p ≤ xs.length ∧ OwnG w' A (.slice (some ⟨A, 0, none⟩) n n) G ∧ GI vs (R2 b k xs p) G ∧ Fr (fun i => i = A) w57 w', fun t _ => xs.length - t.toNat, ⟨0, G, rfl, by omega, Own.grow hG g57, hI.congr fun a c => (R2_zero b k xs a c).symm, Fr.refl _ _⟩, ?_⟩
    rintro - t w67 ⟨p, G2, rfl, hp, hG2, hI2, f67⟩
    refine condD (fun hlt2 => ?_) fun hge2 => ?_
    · have hpl : p < xs.length := by omega
      refine (huE f67).rd rfl hpl ⟨u, c1E f67, (huE f67).ln ?_⟩
      refine ⟨fun t w' => ∃ (q : Nat) (G : List Nat), t = q ∧ q ≤ xs.length ∧ OwnG w' A (.slice (some ⟨A, 0, none⟩) n n) G ∧ GI vs (R3 b k xs p xs[p] q) G ∧ Fr (fun i => i = A) w57 w', fun t _ => xs.length - t.toNat, ⟨0, G2, rfl, by omega, hG2, hI2.congr fun a c => (R3_zero b k xs p _ a c).symm, f67⟩, ?_⟩
      rintro - t w80 ⟨q, G3, rfl, hq, hG3, hI3, f80⟩
      refine condD (fun hlt3 => ?_) fun hge3 => ?_
      · have hql : q < xs.length := by omega
        have skip : ¬ (0 ≤ xs[p] ∧ 0 ≤ xs[q] ∧ xs[p] ≠ xs[q]) → inR ((q : Int) + 1) ∧ ((∃ (q' : Nat) (G : List Nat), (q : Int) + 1 = q' ∧ q' ≤ xs.length ∧ OwnG w80 A (.slice (some ⟨A, 0, none⟩) n n) G ∧ GI vs (R3 b k xs p xs[p] q') G ∧ Fr (fun i => i = A) w57 w80) ∧ xs.length - Int.toNat ((q : Int) + 1) < xs.length - Int.toNat (q : Int)) := fun hn =>
          ⟨by unfold inR; omega, ⟨q + 1, G3, by omega, by omega, hG3, (hI3.skip hv0 hn).congr fun a c => (R3_succ b k xs p _ hql a c).symm, f80⟩, by omega⟩
        refine (huE f80).rd rfl hql (condP_i (fun hx0 => condP_i (fun hy0 => condP_i (fun hne2 => fun d => ?_) fun he => skip ?_) fun hy => skip ?_) fun hx => skip ?_)
        · have hx0 : 0 ≤ xs[p] := by simpa using hx0
          have hy0 : 0 ≤ xs[q] := by simpa using hy0
          have hne2 : ¬ xs[p] = xs[q] := by simpa using hne2
          obtain ⟨i, hi, ei, ei2⟩ := idx_in (hxb _ (List.getElem_mem hpl) hx0)
          obtain ⟨j, hj, ej, ej2⟩ := idx_in (hxb _ (List.getElem_mem hql) hy0)
          obtain ⟨wd, ewd⟩ : ∃ wd, wd = dr w80 d.1 := ⟨_, rfl⟩
          have gd : Grow w80 wd := by rw [ewd]; exact (Grow.refl w80).dr d.1
          rw [← ewd]
          have svd : SlI wd v3 vs := svs.grow ((lf2 f80).trans gd)
          have hlG : G3.length = n := hI3.len.trans en.symm
          have fin : ∀ {E : World}, Grow wd E → (∃ old, E.cell? (Addr.add ⟨A, 0, none⟩ (Int.toNat ((i : Nat) : Int) * 1)) = some old) ∧ E.frozen? (Addr.add ⟨A, 0, none⟩ (Int.toNat ((i : Nat) : Int) * 1)) = false ∧ ∀ w', w' = E.setCell (Addr.add ⟨A, 0, none⟩ (Int.toNat ((i : Nat) : Int) * 1)) (.int .i64 (iOr .i64 ((G3.getD i 0 : Nat) : Int) (iShl .i64 1 (j : Int)))) → inR ((q : Int) + 1) ∧ ((∃ (q' : Nat) (G : List Nat), (q : Int) + 1 = q' ∧ q' ≤ xs.length ∧ OwnG w' A (.slice (some ⟨A, 0, none⟩) n n) G ∧ GI vs (R3 b k xs p xs[p] q') G ∧ Fr (fun i => i = A) w57 w') ∧ xs.length - Int.toNat ((q : Int) + 1) < xs.length - Int.toNat (q : Int)) := fun {E} gE => by
            have lt1 := hI3.lt i
            have lt2 : (2 : Nat) ^ vs.length ≤ 2 ^ 8 := Nat.pow_le_pow_right (by omega) (by omega)
            have lt3 : (2 : Nat) ^ j ≤ 2 ^ 8 := Nat.pow_le_pow_right (by omega) (by omega)
            refine ownG_put (Own.grow hG3 (gd.trans gE)) hlG (by omega) (y := G3.getD i 0 ||| 2 ^ j) (by rw [iShl_one (by omega), iOr_nat (by omega) (by omega)]) fun w' ho' hf' => ⟨by unfold inR; omega, ⟨q + 1, _, by omega, by omega, ho', (hI3.step hsrt hi hj ei2 ej2 hne2).congr fun a c => (R3_succ b k xs p _ hql a c).symm, (f80.trans (Fr.of_grow (gd.trans gE))).trans hf'⟩, by omega⟩
          refine (indexU_c svd).mono ?_
          rw [ei]
          rintro e w86 ⟨rfl, g86⟩
          refine ⟨_, rfl, _, _, _, rfl, ⟨by omega, by omega⟩, ⟨_, ownG_rd (Own.grow hG3 (gd.trans g86)) hlG (by omega), (indexU_c (svd.grow g86)).mono ?_⟩, (indexU_c (svd.grow g86)).mono ?_⟩
          · rw [ej]
            rintro e w93 ⟨rfl, g93⟩
            exact ⟨_, rfl, by omega, _, _, _, rfl, ⟨by omega, by omega⟩, fin (g86.trans g93)⟩
          · rw [ej]
            rintro e w100 ⟨rfl, g100⟩
            exact ⟨_, rfl, by omega, _, ownG_rd (Own.grow hG3 (gd.trans (g86.trans g100))) hlG (by omega), _, _, _, rfl, ⟨by omega, by omega⟩, fin (g86.trans g100)⟩
        · have he : xs[p] = xs[q] := by simpa using he
          exact fun h => h.2.2 he
        · have hy : ¬ 0 ≤ xs[q] := by simpa using hy
          exact fun h => hy h.2.1
        · have hx : ¬ 0 ≤ xs[p] := by simpa using hx
          exact fun h => hx h.1
      · have hqn : q = xs.length := by omega
        subst hqn
        exact ⟨by unfold inR; omega, ⟨p + 1, G3, by omega, by omega, hG3, hI3.congr fun a c => R3_full xs hpl a c, f80⟩, by first | omega | (dsimp only; omega)⟩
    · have hpn : p = xs.length := by omega
      subst hpn
      refine ⟨by unfold inR; omega, ⟨k + 1, G2, by omega, by omega, hG2, hI2.congr fun a c => ?_, (f51.trans (Fr.of_grow g57)).trans f67⟩, by first | omega | (dsimp only; omega)⟩
      rw [exs]
      exact R2_full hkl a c
  · have hkn : k = b.length := by omega
    subst hkn
    exact ⟨.inl ⟨ok, evs ▸ fun e => hne (by rw [e]; rfl), _, G, rfl, Own.slI hG, by rw [← evs]; exact hI⟩, g051⟩
end Go.Proofs.YtleiddajojgmmaaDoor
