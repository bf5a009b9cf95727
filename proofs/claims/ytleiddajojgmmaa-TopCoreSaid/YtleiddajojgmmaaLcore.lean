/- The statement TopCore, as a contract. No condition. -/
import Derived.Test.YtleiddajojgmmaaTf
import Derived.Test.YtleiddajojgmmaaUa
import Derived.Test.YtleiddajojgmmaaGcore
namespace Go.Proofs.Ytleiddajojgmmaa
open Go Go.RowKit VC
set_option linter.unusedSimpArgs false
set_option linter.unusedVariables false

theorem ears_neK {n left : Nat} {V : List Nat} {p : List Int} {l2 : Nat} {p2 : List Int} (h : EarsR n left V p l2 p2) : (∃ i, InS n left i) → ∃ i, InS n l2 i := by
  induction h with
  | stop _ => exact fun h => h
  | @go left V p i k l2 p2 h1 hr ih =>
    intro _
    obtain ⟨hi, hk, ht⟩ := pick_some (Nat.le_refl n) h1
    obtain ⟨b1, b2, b3, b4⟩ := earT_iff.1 ht
    exact ih ⟨k, hk, clr_bit.2 ⟨b3, b1⟩⟩
theorem rest_singleK {b : List Atm} (h1 : 1 ≤ b.length) (h5 : b.length ≤ 5) {l2 : Nat} {p2 : List Int} (h : EarsR b.length (2 ^ b.length - 1) (varsOf b) (List.replicate b.length (-1)) l2 p2) (hl : l2 < 2 ^ b.length) : restV l2 = 0 ↔ Single b.length l2 := by
  rw [single_pc h5 hl]
  unfold restV
  constructor
  · intro h0
    split at h0
    · assumption
    · obtain ⟨i, hi⟩ := ears_neK h ⟨0, inS_all.2 (by omega)⟩
      rw [h0] at hi
      have := hi.2
      simp at this
  · intro hp
    rw [if_pos hp]
theorem equalL_c {w : World} {u v : Value} {L M : List (List Int)} (hx : SlL w u L) (hy : SlL w v M) : Calls Try.prog 46 #[u, v, .func (.func 47) #[] #[]] w (Ret w (.bool (decide (L = M)))) := by
  refine f46_calls _ _ _ ?_
  have h1 := SlX.len_le hx
  have h2 := SlX.len_le hy
  refine SlX.ln hx (SlX.ln hy (condP_i (fun h => ?_) fun h => ?_))
  · refine ⟨?_, Grow.refl w⟩
    have : L ≠ M := fun e => by subst e; simp at h
    rw [decide_eq_false this]
  have hl : L.length = M.length := by simp at h; omega
  refine SlX.ln hx ⟨fun t w' => ∃ k : Nat, t = k ∧ k ≤ L.length ∧ Grow w w' ∧ L.take k = M.take k, fun t _ => L.length - t.toNat, ⟨0, rfl, by omega, Grow.refl w, by simp⟩, ?_⟩
  rintro - t w1 ⟨k, rfl, hk, hw, htk⟩
  refine condD (fun hlt => ?_) (fun hge => ?_)
  · have hkl : k < L.length := by omega
    refine SlL.rd1 (hx.gr hw) rfl hkl fun a ha => SlL.rd1 (hy.gr hw) rfl (by omega) fun c hc => ⟨_, _, _, rfl, by kernel_rfl, ?_⟩
    rw [app2]
    refine (equal_c ha hc).mono ?_
    rintro e w2 ⟨rfl, g2⟩
    refine ⟨_, rfl, condP_i (fun h => ?_) fun h => ?_⟩
    · have h : ¬ L[k] = M[k] := by simpa using h
      refine ⟨?_, hw.trans g2⟩
      have : L ≠ M := fun e => h (by subst e; rfl)
      rw [decide_eq_false this]
    · have he : L[k] = M[k] := by simpa using h
      refine ⟨by unfold inR; omega, ⟨k + 1, by omega, by omega, hw.trans g2, ?_⟩, by dsimp only; omega⟩
      rw [List.take_succ_eq_append_getElem hkl, List.take_succ_eq_append_getElem (by omega), htk, he]
  · refine ⟨?_, hw⟩
    have : k = L.length := by omega
    subst this
    rw [List.take_length, hl, List.take_length] at htk
    rw [decide_eq_true htk]
theorem hasV_at {b : List Atm} {i : Nat} (hi : i < b.length) (x : Nat) : hasV b i x = true ↔ (x : Int) ∈ (atB b i).2 := by
  rw [atB_get hi]
  unfold hasV varsOf
  simp only [List.getD, List.getElem?_map, List.getElem?_eq_getElem hi, Option.map_some, Option.getD_some]
  exact varsL_bit
/-- Nothing is left exactly if the atoms can be eliminated. -/
theorem rest_elim {b : List Atm} (h1 : 1 ≤ b.length) (h5 : b.length ≤ 5) {l2 : Nat} {p2 : List Int} (h : EarsR b.length (2 ^ b.length - 1) (varsOf b) (List.replicate b.length (-1)) l2 p2) (hl : l2 < 2 ^ b.length) :
    restV l2 = 0 ↔ ∃ m, Elim (fun i x => (x : Int) ∈ (atB b i).2) (fun i => i < b.length) m := by
  rw [rest_singleK h1 h5 h hl, ears_single h (earI_init b)]
  constructor
  · rintro ⟨m, hm⟩
    refine ⟨m, Elim.ren (f := id) hm (fun a b _ _ e => e) (fun a ha x => hasV_at ha.1 x) fun j => ?_⟩
    constructor
    · intro hj
      exact ⟨j, inS_all.2 hj, rfl⟩
    · rintro ⟨i, hi, rfl⟩
      exact hi.1
  · rintro ⟨m, hm⟩
    refine ⟨m, Elim.ren (f := id) hm (fun a b _ _ e => e) (fun a ha x => (hasV_at ha x).symm) fun j => ?_⟩
    constructor
    · intro hj
      exact ⟨j, hj.1, rfl⟩
    · rintro ⟨i, hi, rfl⟩
      exact inS_all.2 hi
theorem matches_val : resO [0] [(1, [0, 0])] [(1, [4, 4]), (1, [4, 5])] = (0, [[4]]) := by kernel_rfl
theorem fill_two4 {A : Array Value} (h : A.size = 4) {a0 a1 b0 b1 : Value} : Instr.fill (fun i => some (i * 2, 2)) A [(0, .agg #[a0, a1]), (1, .agg #[b0, b1])] = some #[a0, a1, b0, b1] := by
  obtain ⟨l⟩ := A
  match l, h with
  | [x0, x1, x2, x3], _ => rfl
theorem bs2f {P : Program} {t e : TypeId} {bytes : Nat} {z : Value} (hT : ElT P t e 2 bytes z) {a0 a1 b0 b1 : Value} (w : World) {K : Value → World → Prop}
    (hk : ∀ w', w' = w.alloc (.cells #[a0, a1, b0, b1] e) → K (.slice (some ⟨w.heap.size, 0, none⟩) 2 2) w') : ∃ v : Value, ∃ w' : World, (Instr.buildSlice t 2 #[(0, .agg #[a0, a1]), (1, .agg #[b0, b1])]).run P w = .ok v w' ∧ K v w' := by
  obtain ⟨i, hi, hz, hsize, hby⟩ := hT.info
  refine ⟨_, _, ?_, hk _ rfl⟩
  have hs : (sizeOf e).run P w = .ok 2 w := by simp [sizeOf, typeInfo, hi, hsize]
  have hzr : (zeroValue e).run P w = .ok z w := by simp [zeroValue, typeInfo, hi, hz]
  simp only [Instr.buildSlice, Sem.run_bind, underlying_run hT.und, Result.andThen_ok, hs]
  rw [if_neg (by omega), if_neg (by omega)]
  have hf := fill_two4 (A := (Array.range (2 * 2)).map fun j => z.cells[j % z.cells.size]!) (by simp) (a0 := a0) (a1 := a1) (b0 := b0) (b1 := b1)
  simp only [Sem.run_bind, hzr, Result.andThen_ok, Sem.run_pure, hf, newRow, run_newObj]
  rfl
theorem matchesT_c {w : World} : Calls Try.prog 22 #[] w (Ret w (.bool true)) := by
  refine f22_calls ?_
  intro w1 hw1 w2 hw2
  have g1 := alloc_grow hw1
  have g2 := alloc_grow hw2
  have hh := slI_lit (xs := [0]) hw1 rfl (by simp)
  have ha := slI_lit (xs := [0, 0]) hw2 rfl (by simp)
  refine ⟨SlI.one ha, bs1 el_atom (by omega) (by omega) (cs := #[.int .i64 1, .slice (some ⟨w1.heap.size, 0, none⟩) 2 2]) rfl w2 fun w3 hw3 => ?_⟩
  have g3 := alloc_grow hw3
  have hb := slA_one hw3 (SlI.grow ha g3)
  refine ⟨SlI.one hh, SlX.one hb, fun w5 hw5 => ?_⟩
  have g5 := alloc_grow hw5
  have h1 := slI_lit (xs := [4, 4]) hw5 rfl (by simp)
  refine ⟨SlI.one h1, fun w6 hw6 => ?_⟩
  have g6 := alloc_grow hw6
  have h2 := slI_lit (xs := [4, 5]) hw6 rfl (by simp)
  refine ⟨SlI.one h2, bs2f el_fact w6 fun w7 hw7 => ?_⟩
  have g7 := alloc_grow hw7
  have hl : SlA w7 (.slice (some ⟨w6.heap.size, 0, none⟩) 2 2) [(1, [4, 4]), (1, [4, 5])] := by
    have h := Own.lit (B := w6.heap.size) (n := 2) (sz := 2) hw7 (Nat.le_refl _) (by omega) (by simp)
    have := SlX.of_cells (k := 2) (rep := repA) (w := w7) (v := .slice (some ⟨w6.heap.size, 0, none⟩) 2 2) (ps := [([.int .i64 1, .slice (some ⟨w3.heap.size, 0, none⟩) 2 2], (1, [4, 4])), ([.int .i64 1, .slice (some ⟨w5.heap.size, 0, none⟩) 2 2], (1, [4, 5]))]) (fun p hp => by
      simp only [List.mem_cons, List.not_mem_nil, or_false] at hp
      rcases hp with rfl | rfl
      · exact ⟨rfl, _, rfl, SlI.grow h1 (g6.trans g7)⟩
      · exact ⟨rfl, _, rfl, SlI.grow h2 g7⟩) (by simpa using h.slC)
    simpa using this
  have g07 := ((((g1.trans g2).trans g3).trans g5).trans g6).trans g7
  refine (results_c (SlI.grow hh ((((g2.trans g3).trans g5).trans g6).trans g7)) (hb.gr ((g5.trans g6).trans g7)) hl).mono ?_
  rw [matches_val]
  rintro e w8 ⟨v, rfl, hv, g8⟩
  refine ⟨_, _, rfl, cT rfl fun w12 hw12 => ?_⟩
  have g12 := alloc_grow hw12
  have hr := slI_lit (xs := [4]) hw12 rfl (by simp)
  refine ⟨SlI.one hr, fun w13 hw13 => ?_⟩
  have g13 := alloc_grow hw13
  have hrow := SlI.grow hr g13
  have hR : SlL w13 (.slice (some ⟨w12.heap.size, 0, none⟩) 1 1) [[4]] := by
    have h := Own.lit (B := w12.heap.size) (n := 1) (sz := 1) hw13 (Nat.le_refl _) (by omega) (by simp)
    have := SlX.of_cells (k := 1) (rep := repI) (w := w13) (v := .slice (some ⟨w12.heap.size, 0, none⟩) 1 1) (ps := [([.slice (some ⟨w8.heap.size, 0, none⟩) 1 1], [4])]) (fun p hp => by
      obtain rfl : p = ([.slice (some ⟨w8.heap.size, 0, none⟩) 1 1], [4]) := by simpa using hp
      exact ⟨rfl, _, rfl, hrow⟩) (by simpa using h.slC)
    simpa using this
  refine (equalL_c (hv.gr (g12.trans g13)) hR).mono ?_
  rintro e w14 ⟨rfl, g14⟩
  exact ⟨_, rfl, by simp, (g07.trans g8).trans ((g12.trans g13).trans g14)⟩
theorem topCore_c {w : World} {hv bv : Value} {h : List Int} {b : List Atm} (sh : SlI w hv h) (sb : SlA w bv b) : Calls Try.prog 5 #[.agg #[hv, bv]] w (Ret w (.bool true)) := by
  refine f5_calls _ ?_
  refine ⟨_, rfl, fun w1 hw1 => ?_⟩
  have g1 := alloc_grow hw1
  have hQ := RecV.new hw1
  have z1 := alloc_size hw1
  have aw : ∀ {E : World}, Grow w1 E → Calls Try.prog 22 #[] E fun e w' => ∃ t : Bool, e = .returned (.bool t) ∧ Ret w (.bool true) (.returned (.bool t)) w' := fun g => matchesT_c.mono (by
    rintro e w' ⟨rfl, g'⟩
    exact ⟨_, rfl, rfl, (g1.trans g).trans g'⟩)
  refine ⟨[_, _], rfl, hQ.all, (ofS_c (sh.grow g1) (sb.gr g1)).mono ?_⟩
  rintro e w4 ⟨ha, ba, rfl, sa, ta, g4⟩
  refine ⟨_, rfl, (rest_c sa ta).mono ?_⟩
  rw [okQ_tr]
  rintro e w7 ⟨hR, g7⟩
  have g17 := g4.trans g7
  have g07 := g1.trans g17
  have core : ∀ {K : Ending → World → Prop}, (∀ hb bb w12, SlI w12 hb (h.take 9) → SlA w12 bb (trB b) → Grow w7 w12 → Calls Try.prog 20 #[.agg #[hb, bb]] w12 K) → ∃ cs : List Value, cs.length = 2 ∧ (∀ (j : Nat) (u : Value), cs[j]? = some u → w7.cell? (Addr.add ⟨w.heap.size, 0, none⟩ j) = some u) ∧ Calls Try.prog 19 #[.agg cs.toArray] w7 fun e w12 => ∃ t : Value, e = .returned t ∧ Calls Try.prog 20 #[t] w12 K := fun {K} hK => by
    refine ⟨[_, _], rfl, (hQ.grow g17).all, (ofS_c (sh.grow g07) (sb.gr g07)).mono ?_⟩
    rintro e w12 ⟨hb, bb, rfl, sb2, tb2, g12⟩
    exact ⟨_, rfl, hK _ _ _ sb2 tb2 g12⟩
  rcases hR with ⟨nok, rfl⟩ | ⟨ok, l2, p2, rfl, hE, hl2⟩
  · refine ⟨_, _, rfl, core fun hb bb w12 sb2 tb2 g12 => (core_c sb2 tb2).mono ?_⟩
    rw [okQ_tr, nok]
    rintro e w15 ⟨v, o, rfl, -, -, g15⟩
    exact ⟨_, _, rfl, cT rfl (cT rfl (cT rfl (aw ((g17.trans g12).trans g15))))⟩
  obtain ⟨eb, eh⟩ := trB_of ok
  rw [eb] at hE hl2
  refine ⟨_, _, rfl, core fun hb bb w12 sb2 tb2 g12 => (core_c sb2 tb2).mono ?_⟩
  rw [okQ_tr, ok, eb, eh]
  rintro e w15 ⟨cv, o, rfl, hB, hV, g15⟩
  rw [if_pos rfl] at hB ⊢
  obtain ⟨c, rfl⟩ := core_some ok hB
  have hcl : ∀ i ∈ c, i < b.length := by
    obtain ⟨s, -, -, hs⟩ := hB.2.1
    rw [hs]
    exact set_lt
  have hbl := okQ_len ok
  have hcn : c.length ≤ b.length := by
    obtain ⟨s, -, -, hs⟩ := hB.2.1
    have := (setL_sub b.length s).length_le
    rwa [← hs, List.length_range] at this
  have sc : SlI w15 cv (intL c) := hV.1
  have g115 := (g17.trans g12).trans g15
  have g015 := g1.trans g115
  refine ⟨_, _, rfl, cF rfl (cF rfl ⟨[_, _], rfl, (hQ.grow g115).all, (refValid_c (sh.grow g015) (sb.gr g015)).mono ?_⟩)⟩
  rintro e w26 ⟨rfl, g26⟩
  have g126 := g115.trans g26
  have g026 := g1.trans g126
  rw [ok]
  refine ⟨_, rfl, cF rfl ⟨_, (hQ.grow g126).cell (j := 0) rfl, (clone_c (sh.grow g026) (by omega)).mono ?_⟩⟩
  rintro e w33 ⟨hp, rfl, ohp, g33⟩
  have g133 := g126.trans g33
  have z33 := g133.size
  refine ⟨_, rfl, Own.one ohp, fun w36 hw36 => RecV.init (cs := [hp, .slice none 0 0]) hw36 rfl (by
    intro y hy
    simp at hy
    rcases hy with rfl | rfl
    · exact (Own.one ohp).2
    · rfl) fun w37 g37 s37 hC => ?_⟩
  have zh : ∀ x, hp.ownBlock = some x → w26.heap.size ≤ x ∧ x < w33.heap.size := fun x hx => Own.lt ohp hx
  have sc37 := (sc.grow g26).grow (g33.trans g37)
  refine sc37.ln ?_
  rw [intL_len]
  obtain ⟨P0, eP0⟩ : ∃ P0, P0 = w33.heap.size := ⟨_, rfl⟩
  rw [← eP0] at hC s37 ⊢
  refine ⟨fun t w' => ∃ (k : Nat) (av : Value), t = k ∧ k ≤ c.length ∧ RecV w' P0 [hp, av] ∧ OwnX (fun x => x = P0) 2 repA w' w37.heap.size 41 av (partN b (c.take k)) ∧ Fr (fun i => i = P0 ∨ w37.heap.size ≤ i) w37 w', fun t _ => c.length - t.toNat,
    ⟨0, _, rfl, by omega, hC, OwnX.nil _ _ _, Fr.refl _ _⟩, ?_⟩
  rintro - t w46 ⟨k, av, rfl, hk, hrc, hoA, hf⟩
  have g3346 : Grow w33 w46 := g37.fr hf fun i hi e => by omega
  have g146 := g133.trans g3346
  have g046 := g1.trans g146
  have hQ46 := hQ.grow g146
  refine condD (fun hlt => ?_) (fun hge => ?_)
  · have hkl : k < c.length := by omega
    have hki : k < (intL c).length := by rw [intL_len]; exact hkl
    have hx := hcl _ (List.getElem_mem hkl)
    have eX : (intL c)[k] = ((c[k] : Nat) : Int) := by simp [intL]
    refine ((sc.grow g26).grow (g33.trans g3346)).rd rfl hki ?_
    rw [eX]
    refine condD (fun hneg => absurd hneg (by omega)) fun _ => ⟨bv, hQ46.cell (j := 1) rfl, SlX.ln (sb.gr g046) (condD (fun hbig => absurd hbig (by omega)) fun _ m => ?_)⟩
    obtain ⟨wd, ewd⟩ : ∃ wd, wd = dr w46 m.1 := ⟨_, rfl⟩
    have gd : Grow w46 wd := by rw [ewd]; exact (Grow.refl w46).dr m.1
    rw [← ewd]
    have g0d := g046.trans gd
    have hav : ∀ x, av.ownBlock = some x → w37.heap.size ≤ x ∧ x < w46.heap.size := fun x hx => hoA.lt hx
    have eP : partN b (c.take (k + 1)) = partN b (c.take k) ++ [b[c[k]]] := by
      rw [List.take_succ_eq_append_getElem hkl, partN_app]
      simp [partN, List.getD, hx]
    have z46 := gd.size
    have zf := hf.size
    -- after the copy
    have leaf : ∀ {w58 w40 : World} {u : Value}, Grow wd w58 → OwnI w58 wd.heap.size u b[c[k]].2 → w40 = w58.alloc (.cells #[.int .i64 b[c[k]].1, u] 41) → PApp Try.prog 59 59 av (.slice (some ⟨w58.heap.size, 0, none⟩) 1 1) w40 fun t w45 => oneV t ∧ (∃ old, w45.cell? (Addr.add ⟨P0, 0, none⟩ 1) = some old) ∧ w45.frozen? (Addr.add ⟨P0, 0, none⟩ 1) = false ∧ ∀ w71, w71 = w45.setCell (Addr.add ⟨P0, 0, none⟩ 1) t →
        inR ((k : Int) + 1) ∧ ((∃ (k' : Nat) (av : Value), (k : Int) + 1 = k' ∧ k' ≤ c.length ∧ RecV w71 P0 [hp, av] ∧ OwnX (fun x => x = P0) 2 repA w71 w37.heap.size 41 av (partN b (c.take k')) ∧ Fr (fun i => i = P0 ∨ w37.heap.size ≤ i) w37 w71) ∧ c.length - Int.toNat ((k : Int) + 1) < c.length - Int.toNat (k : Int)) := fun {w58 w40 u} g58 ou hw40 => by
      have g40 := alloc_grow hw40
      have gd58 := gd.trans g58
      have z58 := g58.size
      refine pappX1 el_atom (by omega) (cs := [.int .i64 b[c[k]].1, u]) (y := b[c[k]]) (hoA.grow gd58) hw40 (elx_own ou (fun x hx => by have hx : x = P0 := hx; omega) fun x hx => by have := hav x hx; omega) (by omega) (by rw [partN, List.length_map, List.length_take]; omega) (by omega) ?_
      intro v2 w45 ho2 hf2 _ _
      have hr45 : RecV w45 P0 [hp, av] := ((hrc.grow gd58).grow g40).fr hf2 fun e => by have := (hav _ e.symm).1; omega
      refine ⟨OwnX.one ho2, ⟨_, hr45.cell (j := 1) rfl⟩, hr45.free 1, fun w71 hw71 => ⟨by unfold inR; omega, ⟨k + 1, v2, by omega, by omega, hr45.set hw71, ?_, ?_⟩, by omega⟩⟩
      · rw [eP]
        exact OwnX.fr ho2 (RecV.set_fr hw71) (fun x hx => hx) (fun x hx e => by have := (ho2.lt hx).1; omega)
      · exact (hf.trans (Fr.of_grow gd58)).trans ((Fr.of_grow g40).trans ((hf2.mono fun x _ e => .inr (hav x e.symm).1).trans ((RecV.set_fr hw71).mono fun x _ e => .inl e)))
    have hrd := hrc.grow gd
    have of_ : ∀ {K : Ending → World → Prop}, (∀ (w58 : World) (h2 b2 u : Value), Grow wd w58 → OwnI w58 wd.heap.size u b[c[k]].2 → (∃ (a : Addr) (n c' : Nat), b2 = .slice (some a) n c' ∧ ((0 : Int) ≤ ((c[k] : Nat) : Int) ∧ ((c[k] : Nat) : Int) < (n : Int)) ∧ ∀ (t : Nat) (x : Value), [.int .i64 b[c[k]].1, u][t]? = some x → w58.cell? (Addr.add (a.add (Int.toNat ((c[k] : Nat) : Int) * 2)) t) = some x) → K (.returned (.agg #[h2, b2])) w58) → Calls Try.prog 19 #[.agg #[hv, bv]] wd K := fun {K} hK => by
      refine (ofO_c (sh.grow g0d) (sb.gr g0d)).mono ?_
      rintro e w58 ⟨h2, b2, ps, rfl, -, nb, eps, g58, -⟩
      rw [eb] at eps
      have hpl : c[k] < ps.length := by
        have := congrArg List.length eps
        rw [List.length_map] at this
        omega
      have epk : ps[c[k]].2 = b[c[k]] := by
        have : (ps.map Prod.snd)[c[k]]'(by rw [List.length_map]; exact hpl) = ps[c[k]].2 := List.getElem_map ..
        rw [← this]
        simp only [eps]
      have hs : SlR (fun p : Value × Atm => [.int .i64 p.2.1, p.1]) w58 b2 ps := nb.own.slC
      obtain ⟨a, n, c', e1, e2, cs, hl, hcs, e3⟩ := SlR.rd (k := 2) hs (fun _ => rfl) (j := ((c[k] : Nat) : Int)) rfl hpl (K := fun cs => cs = [.int .i64 ps[c[k]].2.1, ps[c[k]].1]) rfl
      have ou := nb.args _ (List.getElem_mem hpl)
      rw [epk] at ou e3
      subst e3
      exact hK w58 h2 b2 _ g58 ou ⟨a, n, c', e1, e2, hcs⟩
    have build : ∀ {w58 : World} {u : Value} {K : Value → World → Prop}, (∀ w40, w40 = w58.alloc (.cells #[.int .i64 b[c[k]].1, u] 41) → K (.slice (some ⟨w58.heap.size, 0, none⟩) 1 1) w40) → ∃ v : Value, ∃ w' : World, (Instr.buildSlice 59 1 #[(0, (Value.agg [.int .i64 b[c[k]].1, u].toArray))]).run Try.prog w58 = .ok v w' ∧ K v w' := fun {w58 u K} hK => bs1 el_atom (by omega) (by omega) (cs := #[.int .i64 b[c[k]].1, u]) rfl w58 hK
    refine ⟨⟨av, hrd.cell (j := 1) rfl, [_, _], rfl, (hQ46.grow gd).all, of_ fun w58 h2 b2 u g58 ou hrd58 => ?_⟩, [_, _], rfl, (hQ46.grow gd).all, ⟨av, hrd.cell (j := 1) rfl, of_ fun w58 h2 b2 u g58 ou hrd58 => ?_⟩, of_ fun w58 h2 b2 u g58 ou hrd58 => ?_⟩
    · obtain ⟨a, n, c', e1, e2, hcs⟩ := hrd58
      exact ⟨_, rfl, b2, ⟨_, rfl, rfl⟩, a, n, c', e1, e2, [_, _], rfl, hcs, build fun w40 hw40 => leaf g58 ou hw40⟩
    · obtain ⟨a, n, c', e1, e2, hcs⟩ := hrd58
      exact ⟨_, rfl, b2, ⟨_, rfl, rfl⟩, a, n, c', e1, e2, [_, _], rfl, hcs, build fun w40 hw40 => leaf g58 ou hw40⟩
    · obtain ⟨a, n, c', e1, e2, hcs⟩ := hrd58
      have hr58 := hrd.grow g58
      exact ⟨_, rfl, b2, ⟨_, rfl, rfl⟩, a, n, c', e1, e2, ⟨av, hr58.cell (j := 1) rfl, [_, _], rfl, hcs, build fun w40 hw40 => leaf g58 ou hw40⟩, [_, _], rfl, hcs, ⟨av, hr58.cell (j := 1) rfl, build fun w40 hw40 => leaf g58 ou hw40⟩, build fun w40 hw40 => ⟨av, (hr58.grow (alloc_grow hw40)).cell (j := 1) rfl, leaf g58 ou hw40⟩⟩
  · have hkl : k = c.length := by omega
    subst hkl
    rw [List.take_length] at hoA
    have okp : okQ h (partN b c) = true := hB.1.1
    have ohp46 : OwnI w46 w26.heap.size hp h := (Own.grow ohp g37).fr hf fun x hx e => by have := zh x hx; omega
    refine ⟨[_, _], rfl, hrc.all, (rest_c (Own.slI ohp46) (OwnX.slX hoA)).mono ?_⟩
    rintro e w117 ⟨hR2, g117⟩
    have g1117 := g146.trans g117
    rcases hR2 with ⟨nok, -⟩ | ⟨-, l3, p3, rfl, hE3, hl3⟩
    · rw [okp] at nok; cases nok
    refine ⟨_, _, rfl, cT rfl (condP_i (fun _ => aw g1117) fun hz => cT ?_ (aw g1117))⟩
    have hz : restV l2 = 0 := by
      have : ((restV l2 : Nat) : Int) = 0 := by simpa using hz
      omega
    have hpl := okQ_len okp
    obtain ⟨m, hm⟩ := (rest_elim hbl.1 hbl.2.1 hE hl2).1 hz
    have := (rest_elim hpl.1 hpl.2.1 hE3 hl3).2 (core_elim ok hB hm)
    rw [this]
    rfl
end Go.Proofs.Ytleiddajojgmmaa
