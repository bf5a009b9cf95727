/- The statement TopClosure, as a contract. No condition. -/
import Derived.Test.YtleiddajojgmmaaUx
import Derived.Test.YtleiddajojgmmaaUp
import Derived.Test.YtleiddajojgmmaaUv
import Derived.Test.YtleiddajojgmmaaMv
import Derived.Test.YtleiddajojgmmaaKr
import Derived.Test.YtleiddajojgmmaaGclosure
namespace Go.Proofs.Ytleiddajojgmmaa
open Go Go.RowKit VC Go.ChangeShapes Go.WideShapes
set_option linter.unusedSimpArgs false
set_option linter.unusedVariables false

section
variable {H : Type} {enc : TypeId × Value → H}
set_option maxRecDepth 100000 in
theorem argD {W : World} {base : Nat} {v : Value} {d : DataW H} {ps : List MemPlace} (hok : Value.okWide Try.prog W .any base 38 v) (h : DataW.Trod enc Try.prog W 0 (fun _ => true) true 38 v d ps) : ∃ D : List (Int × Int), SlR spF W v D :=
  arg_recs2 (e := 45) (by kernel_rfl) Try.underlying45 (by kernel_rfl) (by kernel_rfl) (by kernel_rfl) ⟨by kernel_rfl, by kernel_rfl, by kernel_rfl, by kernel_rfl⟩ hok h
end
theorem appQ0 (a : Value) : (#[] ++ #[a] ++ #[] : Array Value) = #[a] := rfl
/-! ## The reference: sets, pairs, valid -/
def setB (n : Nat) (x : Int) : Bool := decide (0 ≤ x) && decide (x < ((2 ^ n : Nat) : Int))
theorem setB_iff {n : Nat} {x : Int} : setB n x = true ↔ ∃ s : Nat, x = s ∧ s < 2 ^ n := by
  unfold setB
  rw [Bool.and_eq_true, decide_eq_true_eq, decide_eq_true_eq]
  constructor
  · rintro ⟨h1, h2⟩
    exact ⟨x.toNat, by omega, by omega⟩
  · rintro ⟨s, rfl, h⟩
    exact ⟨by omega, by omega⟩
theorem setB_c {w : World} {n : Nat} {x : Int} (hn : n ≤ 8) : Calls Try.prog 13 #[.int .i64 (n : Int), .int .i64 x] w (Ret w (.bool (setB n x))) := by
  refine f13_calls _ _ (condD (fun h => ⟨by omega, ?_, Grow.refl _⟩) fun h => ⟨?_, Grow.refl _⟩)
  · rw [iShl_one (by omega)]
    unfold setB
    rw [decide_eq_true h, Bool.true_and]
  · unfold setB
    rw [decide_eq_false h]
    rfl
theorem pairB_c {w : World} {n : Nat} {d : Int × Int} (hn : n ≤ 8) : Calls Try.prog 32 #[.int .i64 (n : Int), .agg (spF d).toArray] w (Ret w (.bool (setB n d.1 && setB n d.2))) := by
  refine f32_calls _ _ ⟨_, rfl, fun w1 hw1 => ?_⟩
  have g1 := alloc_grow hw1
  refine ⟨_, boxc hw1 0 _ rfl, (setB_c hn).mono ?_⟩
  rintro e w4 ⟨rfl, g4⟩
  refine ⟨_, rfl, condP_i (fun h => ⟨_, g4.cell (boxc hw1 1 _ rfl), (setB_c hn).mono ?_⟩) fun h => ⟨by rw [h]; rfl, g1.trans g4⟩⟩
  rintro e w8 ⟨rfl, g8⟩
  exact ⟨_, rfl, by rw [h, Bool.true_and], (g1.trans g4).trans g8⟩
theorem refValidD_c {w : World} {lv : Value} {D : List (Int × Int)} {n : Nat} (hl : SlR spF w lv D) (h1 : 1 ≤ n) (h8 : n ≤ 8) (h12 : D.length ≤ 12) : Calls Try.prog 12 #[.int .i64 (n : Int), lv] w (Ret w (.bool (D.all fun d => setB n d.1 && setB n d.2))) := by
  refine f12_calls _ _ (cF (decide_eq_false (by omega)) (cF (decide_eq_false (by omega)) (SlR.ln hl (cF (decide_eq_false (by omega)) (SlR.ln hl ⟨fun t w' => ∃ k : Nat, t = k ∧ k ≤ D.length ∧ (∀ d ∈ D.take k, (setB n d.1 && setB n d.2) = true) ∧ Grow w w', fun t _ => D.length - t.toNat, ⟨0, rfl, by omega, (fun d hd => by simp at hd), Grow.refl _⟩, ?_⟩)))))
  rintro - t w11 ⟨k, rfl, hk, hall, g11⟩
  refine condD (fun hlt => ?_) fun hge => ?_
  · have hkl : k < D.length := by omega
    refine SlR.rd (SlR.grow hl g11) spF_len rfl hkl fun w16 hw16 => ?_
    refine RecV.init (cs := spF D[k]) hw16 rfl (spF_one _) fun w17 g17 z17 h17 => ⟨spF D[k], rfl, h17.all, (pairB_c h8).mono ?_⟩
    rintro e w20 ⟨rfl, g20⟩
    refine ⟨_, rfl, condP_i (fun h => ⟨?_, (g11.trans g17).trans g20⟩) fun h => ⟨by unfold inR; omega, ⟨k + 1, by omega, by omega, fun d hd => ?_, (g11.trans g17).trans g20⟩, by first | omega | (dsimp only; omega)⟩⟩
    · have : (D.all fun d => setB n d.1 && setB n d.2) = false := by
        rw [List.all_eq_false]
        exact ⟨_, List.getElem_mem hkl, fun e => by rw [e] at h; cases h⟩
      rw [this]
    · rw [List.take_succ_eq_append_getElem hkl] at hd
      rcases List.mem_append.1 hd with hd | hd
      · exact hall d hd
      · rw [List.mem_singleton.1 hd]
        simpa using h
  · have hkl : k = D.length := by omega
    subst hkl
    rw [List.take_length] at hall
    rw [List.all_eq_true.2 hall]
    exact ⟨rfl, g11⟩
theorem natD {n : Nat} {D : List (Int × Int)} (h : ∀ d ∈ D, setB n d.1 = true ∧ setB n d.2 = true) : ∃ L : List (Nat × Nat), D = encD L ∧ ∀ d ∈ L, d.1 < 2 ^ n ∧ d.2 < 2 ^ n := by
  refine ⟨D.map fun d => (d.1.toNat, d.2.toNat), ?_, fun d hd => ?_⟩
  · unfold encD
    rw [List.map_map]
    conv => lhs; rw [← List.map_id D]
    refine List.map_congr_left fun d hd => ?_
    obtain ⟨s, e1, -⟩ := setB_iff.1 (h d hd).1
    obtain ⟨t, e2, -⟩ := setB_iff.1 (h d hd).2
    show d = (((d.1.toNat : Nat) : Int), ((d.2.toNat : Nat) : Int))
    rw [e1, e2]
    obtain ⟨x, y⟩ := d
    dsimp only at e1 e2
    subst e1 e2
    simp
  · obtain ⟨c, hc, rfl⟩ := List.mem_map.1 hd
    obtain ⟨s, e1, h1⟩ := setB_iff.1 (h c hc).1
    obtain ⟨t, e2, h2⟩ := setB_iff.1 (h c hc).2
    exact ⟨by dsimp only; omega, by dsimp only; omega⟩
/-! ## derives -/
theorem derives_c {w : World} : Calls Try.prog 14 #[] w (Ret w (.bool true)) := by
  refine f14_calls fun w1 hw1 => ?_
  have g1 := alloc_grow hw1
  have hu : SlI w1 (.slice (some ⟨w.heap.size, 0, none⟩) 1 1) [-((3 : Nat) : Int)] := slI_lit (xs := [-((3 : Nat) : Int)]) hw1 rfl (by simp)
  refine ⟨hu.one, _, _, rfl, bs1 el_rule (by omega) (by omega) (cs := #[.int .i64 2, .slice (some ⟨w.heap.size, 0, none⟩) 1 1, .slice none 0 0]) rfl w1 fun w4 hw4 => ?_⟩
  have g4 := alloc_grow hw4
  have hl : SlX 3 (repRule 3) w4 (.slice (some ⟨w1.heap.size, 0, none⟩) 1 1) [(2, [])] := by
    have h := Own.lit (B := w1.heap.size) (n := 1) (sz := 3) hw4 (Nat.le_refl _) (by omega) (by simp)
    have := SlX.of_cells (k := 3) (rep := repRule 3) (w := w4) (v := .slice (some ⟨w1.heap.size, 0, none⟩) 1 1) (ps := [([.int .i64 2, .slice (some ⟨w.heap.size, 0, none⟩) 1 1, .slice none 0 0], ((2 : Nat), ([] : List Nat)))]) (fun p hp => by
      obtain rfl : p = ([.int .i64 2, .slice (some ⟨w.heap.size, 0, none⟩) 1 1, .slice none 0 0], ((2 : Nat), ([] : List Nat))) := by simpa using hp
      exact ⟨rfl, _, _, rfl, hu.grow g4, SlX.nil _⟩) (by simpa using h.slC)
    simpa using this
  refine (Model_c (c := 3) (by omega) (by omega) (l := []) hl (SlX.nil _) ⟨by simp, fun r hr => ?_⟩ (by simp) (by simp)).mono ?_
  · obtain rfl : r = (2, []) := by simpa using hr
    exact ⟨by decide, by decide, fun b hb => by simp at hb⟩
  rintro e w6 ⟨v, L, S, rfl, hv, hp, hnd, hL, g6⟩
  have hS : S.Perm [2] := (List.perm_ext_iff_of_nodup hnd (by simp)).2 fun r => by
    rw [List.mem_singleton]
    constructor
    · refine hL.least (fun r => r = 2) (fun r hr => by simp at hr) (fun r hr _ => ?_) r
      obtain rfl : r = (2, []) := by simpa using hr
      rfl
    · rintro rfl
      exact hL.closed (2, []) (by simp) fun b hb => by simp at hb
  have hL1 : L = [((2 : Int), [(3 : Int)])] := by
    rw [List.perm_singleton.1 hS] at hp
    exact List.perm_singleton.1 hp
  subst hL1
  refine ⟨_, _, rfl, cT rfl fun w10 hw10 => ?_⟩
  have g10 := alloc_grow hw10
  have h3 : SlI w10 (.slice (some ⟨w6.heap.size, 0, none⟩) 1 1) [3] := slI_lit (xs := [3]) hw10 rfl (by simp)
  refine ⟨h3.one, bs1 el_fact (by omega) (by omega) (cs := #[.int .i64 2, .slice (some ⟨w6.heap.size, 0, none⟩) 1 1]) rfl w10 fun w11 hw11 => ?_⟩
  have g11 := alloc_grow hw11
  have hl2 : SlA w11 (.slice (some ⟨w10.heap.size, 0, none⟩) 1 1) [((2 : Int), [(3 : Int)])] := by
    have h := Own.lit (B := w10.heap.size) (n := 1) (sz := 2) hw11 (Nat.le_refl _) (by omega) (by simp)
    have := SlX.of_cells (k := 2) (rep := repA) (w := w11) (v := .slice (some ⟨w10.heap.size, 0, none⟩) 1 1) (ps := [([.int .i64 2, .slice (some ⟨w6.heap.size, 0, none⟩) 1 1], ((2 : Int), [(3 : Int)]))]) (fun p hp => by
      obtain rfl : p = ([.int .i64 2, .slice (some ⟨w6.heap.size, 0, none⟩) 1 1], ((2 : Int), [(3 : Int)])) := by simpa using hp
      exact ⟨rfl, _, rfl, h3.grow g11⟩) (by simpa using h.slC)
    simpa using this
  refine (same_c (hv.gr (g10.trans g11)) hl2).mono ?_
  rintro e w13 ⟨rfl, g13⟩
  exact ⟨_, rfl, by rw [decide_eq_true rfl], ((((g1.trans g4).trans g6).trans g10).trans g11).trans g13⟩
/-! ## Rules that are built -/
theorem atom1_c {w : World} {a : Int} : Calls Try.prog 15 #[.int .i64 a] w fun e w' => ∃ u, e = .returned (.agg #[.int .i64 a, u]) ∧ OwnI w' w.heap.size u [-((1 : Nat) : Int)] ∧ Grow w w' := by
  refine f15_calls _ fun w1 hw1 w2 hw2 => ?_
  have g1 := alloc_grow hw1
  have g2 := alloc_grow hw2
  have z1 := alloc_size hw1
  have z2 := alloc_size hw2
  have ho : OwnI w2 w.heap.size (.slice (some ⟨w1.heap.size, 0, none⟩) 1 1) [-((1 : Nat) : Int)] := Own.lit (B := w.heap.size) (n := 1) (sz := 1) hw2 (by omega) (by omega) (by simp)
  refine ⟨Own.one ho, RecV.store (cs := [.int .i64 a, .slice (some ⟨w1.heap.size, 0, none⟩) 1 1]) ((RecV.new hw1).grow g2) rfl (by
    intro u hu
    simp at hu
    rcases hu with rfl | rfl
    · rfl
    · exact (Own.one ho).2) fun w3 f3 h3 => ⟨[_, _], rfl, h3.all, _, rfl, ?_, ?_⟩⟩
  · exact Own.fr ho f3 fun k hk e => by
      have hk : some w1.heap.size = some k := hk
      have := Option.some.inj hk
      omega
  · exact (g1.trans g2).fr f3 fun i hi e => by omega
theorem VC.RecV.head {P : Program} {w : World} {b : Nat} {x0 x1 x2 y0 y1 : Value} (h : RecV w b [x0, x1, x2]) (h0 : y0.oneCell' = true) (h1 : y1.oneCell' = true) {K : World → Prop} (hk : ∀ w2, Fr (fun k => k = b) w w2 → RecV w2 b [y0, y1, x2] → K w2) :
    ∃ cs' : Array Value, (Value.agg #[y0, y1]) = Value.agg cs' ∧ cs'.size = 2 ∧ ∃ w2 : World, (storeCells (Addr.add ⟨b, 0, none⟩ 0) cs'.toList).run P w = .ok () w2 ∧ K w2 := by
  obtain ⟨t, h⟩ := h
  have hr := run_storeCells_at P b 0 t [y0, y1] 0 [x0, x1, x2].toArray w h (by simp) (by
    intro v hv
    simp at hv
    rcases hv with rfl | rfl
    · exact h0
    · exact h1)
  exact ⟨_, rfl, rfl, w.setRow b [y0, y1, x2].toArray, by rw [Addr.add0]; exact hr, hk _ ⟨rfl, rfl, rfl, by simp [World.setRow], fun k _ hk => setRow_other w b k _ hk⟩ ⟨t, setRow_heap w b [x0, x1, x2].toArray [y0, y1, x2].toArray t (0, 0) h⟩⟩
theorem VC.OwnX.fresh {α : Type} {T : Nat → Prop} {k : Nat} {rep : World → List Value → α → Prop} {w : World} {B : Nat} {e : TypeId} {v : Value} {xs : List α} (h : OwnX T k rep w B e v xs) : OwnX (fun b => T b ∨ w.heap.size ≤ b) k rep w B e v xs := by
  obtain ⟨ps, h1, h2, h3⟩ := h.ex
  refine ⟨ps, h1, fun p hp => ⟨(h2 p hp).len, (h2 p hp).one, fun w2 hf => (h2 p hp).rep w2 (hf.mono fun b hb e => ?_)⟩, h3⟩
  rcases e with (e | e) | e
  · exact .inl e
  · omega
  · exact .inr e
theorem el_lit : ElT Try.prog 46 50 3 40 (.agg #[.bool false, .int .i64 0, .slice none 0 0]) := ⟨by kernel_rfl, ⟨Try.t50, by kernel_rfl, by kernel_rfl, by kernel_rfl, by kernel_rfl⟩, rfl⟩
abbrev OwnBody (D0 : Nat) (w : World) (v : Value) (l : List Nat) : Prop := OwnX (fun b => b < D0) 3 (repLit 1) w D0 50 v l
theorem elx_lit {T : Nat → Prop} {w : World} {B a : Nat} {u out : Value} (ho : OwnI w B u [-((1 : Nat) : Int)]) (hT : ∀ b, T b → b < B) (hout : ∀ b, out.ownBlock = some b → b < B) : ElX T 3 (repLit 1) out w ([.bool false, .int .i64 (a : Int), u], a) := by
  refine ⟨rfl, ?_, fun w' hf => ⟨u, rfl, (Own.fr ho hf fun k hk e => ?_).slI⟩⟩
  · intro y hy
    simp at hy
    rcases hy with rfl | rfl | rfl
    · rfl
    · rfl
    · exact (Own.one ho).2
  · have h2 := (Own.lt ho hk).1
    rcases e with e | e
    · have := hT k e; omega
    · have := hout k e.symm; omega
theorem elx_rule {T : Nat → Prop} {w : World} {B D0 to : Nat} {u bv out : Value} {body : List Nat} (hu : OwnI w B u [-((1 : Nat) : Int)]) (hb : OwnBody D0 w bv body) (hB : D0 ≤ B) (hT : ∀ b, T b → b < D0) (hout : ∀ b, out.ownBlock = some b → b < D0) : ElX T 3 (repRule 1) out w ([.int .i64 (to : Int), u, bv], (to, body)) := by
  have hlow : ∀ b, T b ∨ some b = out.ownBlock → b < D0 := fun b e => e.elim (hT b) fun e => hout b e.symm
  refine ⟨rfl, ?_, fun w' hf => ⟨u, bv, rfl, (Own.fr hu hf fun k hk e => ?_).slI, OwnX.slX (OwnX.fr hb hf hlow fun k hk e => ?_)⟩⟩
  · intro y hy
    simp at hy
    rcases hy with rfl | rfl | rfl
    · rfl
    · exact (Own.one hu).2
    · exact (OwnX.one hb).2
  · have h2 := (Own.lt hu hk).1
    have := hlow k e
    omega
  · have h2 := (OwnX.lt hb hk).1
    have := hlow k e
    omega
/-- Inside a round: what is known of the first attributes. -/
def InCl (n : Nat) (d : Nat × Nat) (R0 D0 : Nat) (w0 : World) (to t : Int) (w' : World) : Prop := ∃ (a : Nat) (bv : Value), t = a ∧ a ≤ n ∧ to = toF d.2 a ∧ RecV w' R0 [.int .i64 0, .slice none 0 0, bv] ∧ OwnBody D0 w' bv (bodyN a d.1) ∧ Fr (fun i => i = R0) w0 w'
/-- Between the rounds. -/
structure ClI (n : Nat) (L : List (Nat × Nat)) (w0 : World) (k : Nat) (w' : World) (dv av : Value) : Prop where
  dep : OwnD w' w0.heap.size dv (depsD (keptD n (L.take k)))
  all : OwnX (fun b => dv.ownBlock = some b) 3 (repRule 1) w' w0.heap.size 48 av (rulesD n (keptD n (L.take k)))
  ne : ∀ b, dv.ownBlock = some b → av.ownBlock ≠ some b
  gr : Grow w0 w'
theorem ClI.grow {n : Nat} {L : List (Nat × Nat)} {w0 w' w2 : World} {k : Nat} {dv av : Value} (h : ClI n L w0 k w' dv av) (g : Grow w' w2) : ClI n L w0 k w2 dv av := ⟨Own.grow h.dep g, OwnX.grow h.all g, h.ne, h.gr.trans g⟩
theorem orL_snoc (l : List Nat) (r : Nat) : orL (l ++ [r]) = orL l ||| 2 ^ r := by simp [orL, List.foldl_append]
theorem orL_lt {l : List Nat} (h : ∀ r ∈ l, r < 6) : orL l < 64 := by
  refine Nat.lt_pow_two_of_testBit (n := 6) _ fun i hi => ?_
  cases hb : (orL l).testBit i with
  | false => rfl
  | true => have := h i (orL_bit.1 hb); omega
theorem facts_perm {c : Nat} {S : List Nat} {L : List (Int × List Int)} (h : L.Perm (factsN c S)) : ∃ S2 : List Nat, S2.Perm S ∧ L = factsN c S2 := by
  refine ⟨L.map fun x => x.1.toNat, ?_, ?_⟩
  · have := h.map fun x => x.1.toNat
    rwa [show (factsN c S).map (fun x => x.1.toNat) = S from by
      unfold factsN
      rw [List.map_map]
      conv => rhs; rw [← List.map_id S]
      exact List.map_congr_left fun r _ => by simp] at this
  · unfold factsN
    rw [List.map_map]
    conv => lhs; rw [← List.map_id L]
    refine List.map_congr_left fun x hx => ?_
    obtain ⟨r, -, rfl⟩ := List.mem_map.1 (h.mem_iff.1 hx)
    simp
/-! ## The statement -/
theorem topClosure_c {w : World} {n s : Int} {lv : Value} {D : List (Int × Int)} (hD : SlR spF w lv D) : Calls Try.prog 4 #[.int .i64 n, lv, .int .i64 s] w (Ret w (.bool true)) := by
  have fin : ∀ {E : World}, Grow w E → Calls Try.prog 14 #[] E fun e w' => ∃ t : Bool, e = .returned (Value.bool t) ∧ Ret w (.bool true) (.returned (Value.bool t)) w' := fun gE => derives_c.mono (by
    rintro e w23 ⟨rfl, g23⟩
    exact ⟨_, rfl, rfl, gE.trans g23⟩)
  refine f4_calls _ _ _ (condD (fun _ => fin (Grow.refl w)) fun h1 => condD (fun _ => fin (Grow.refl w)) fun h6 => SlR.ln hD (condD (fun _ => fin (Grow.refl w)) fun h10 => ?_))
  obtain ⟨n, rfl⟩ : ∃ m : Nat, n = m := ⟨n.toNat, by omega⟩
  refine (refValidD_c hD (n := n) (by omega) (by omega) (by omega)).mono ?_
  rintro e w13 ⟨rfl, g13⟩
  refine ⟨_, rfl, condP_i (fun _ => fin g13) fun hok => ?_⟩
  refine (setB_c (by omega)).mono ?_
  rintro e w19 ⟨rfl, g19⟩
  have g019 := g13.trans g19
  refine ⟨_, rfl, condP_i (fun _ => fin g019) fun hset => ?_⟩
  have hok : (D.all fun d => setB n d.1 && setB n d.2) = true := by rwa [Bool.not_eq_false'] at hok
  have hset : setB n s = true := by rwa [Bool.not_eq_false'] at hset
  obtain ⟨s, rfl, hs⟩ := setB_iff.1 hset
  obtain ⟨L, rfl, hL⟩ := natD (n := n) (D := D) fun d hd => by
    have := List.all_eq_true.1 hok d hd
    rwa [Bool.and_eq_true] at this
  clear hok hset
  have hl : SlD w lv L := hD
  rw [encD_len] at h10
  have hn8 : (2 : Nat) ^ n ≤ 2 ^ 8 := Nat.pow_le_pow_right (by omega) (by omega)
  refine SlR.ln hD ?_
  rw [encD_len]
  refine ⟨fun dv av t w' => ∃ k : Nat, t = k ∧ k ≤ L.length ∧ ClI n L w19 k w' dv av, fun _ _ t _ => L.length - t.toNat, ⟨0, rfl, by omega, Own.nil _ _ _ _, OwnX.nil _ _ _, fun b hb => (by cases hb), Grow.refl _⟩, ?_⟩
  rintro - dv av t w34 ⟨k, rfl, hk, hI⟩
  have g034 := g019.trans hI.gr
  have z19 := hI.gr.size
  have hK10 : ∀ k, (keptD n (L.take k)).length ≤ 10 := fun k => by
    have h1 := keptD_len n (L.take k)
    have h2 : (L.take k).length ≤ L.length := by rw [List.length_take]; omega
    omega
  have hdl : ∀ K, (depsD K).length = K.length := fun K => by simp [depsD]
  have hrl : ∀ K, (rulesD n K).length = K.length := fun K => by simp [rulesD]
  have lowD : ∀ b, dv.ownBlock = some b → w19.heap.size ≤ b ∧ b < w34.heap.size := fun b hb => Own.lt hI.dep hb
  have lowA : ∀ b, av.ownBlock = some b → w19.heap.size ≤ b ∧ b < w34.heap.size := fun b hb => OwnX.lt hI.all hb
  refine condD (fun hlt => ?_) fun hge => ?_
  · have hkl : k < L.length := by omega
    have hdk := hL _ (List.getElem_mem hkl)
    have hks := keptD_snoc (n := n) hkl
    refine locD hl g034 rfl hkl rfl fun w40 g40 s40 hC => fun w42 hw42 => ?_
    refine RecV.init (cs := [.int .i64 0, .slice none 0 0, .slice none 0 0]) hw42 rfl (by
      intro y hy
      simp at hy
      rcases hy with rfl | rfl <;> rfl) fun w43 g43 s43 hR => ?_
    have hC43 := hC.grow g43
    have g3443 := g40.trans g43
    obtain ⟨R0, eR0⟩ : ∃ R0, R0 = w40.heap.size := ⟨_, rfl⟩
    obtain ⟨D0, eD0⟩ : ∃ D0, D0 = w43.heap.size := ⟨_, rfl⟩
    obtain ⟨C, eC⟩ : ∃ C, C = w34.heap.size := ⟨_, rfl⟩
    rw [← eR0] at hR ⊢
    rw [← eC] at hC43 ⊢
    refine ⟨InCl n L[k] R0 D0 w43, fun _ t _ => n - t.toNat, ⟨0, .slice none 0 0, rfl, by omega, rfl, hR, OwnX.nil _ _ _, Fr.refl _ _⟩, ?_⟩
    rintro - to t w50 ⟨a, bv, rfl, ha, rfl, hR50, hb50, f50⟩
    have hC50 := hC43.fr f50 (by omega)
    have z50 := f50.size
    have g3450 : Grow w34 w50 := g3443.fr f50 fun i hi e => by omega
    refine condD (fun hlt2 => ?_) fun hge2 => ?_
    · have han : a < n := by omega
      have toStep : ∀ {E : World} {bv' : Value}, RecV E C [.int .i64 (L[k].1 : Int), .int .i64 (L[k].2 : Int)] → RecV E R0 [.int .i64 0, .slice none 0 0, bv'] → OwnBody D0 E bv' (bodyN (a + 1) L[k].1) → Fr (fun i => i = R0) w43 E →
          ∃ t67 : Int, E.cell? (Addr.add ⟨C, 0, none⟩ 1) = some (.int .i64 t67) ∧ (0 : Int) ≤ (a : Int) ∧ condP (decide ((iAnd .i64 (iShr .i64 t67 (a : Int)) 1) = (1 : Int))) (inR ((a : Int) + 1) ∧ (InCl n L[k] R0 D0 w43 (a : Int) ((a : Int) + 1) E ∧ n - Int.toNat ((a : Int) + 1) < n - Int.toNat (a : Int))) (inR ((a : Int) + 1) ∧ (InCl n L[k] R0 D0 w43 (toF L[k].2 a) ((a : Int) + 1) E ∧ n - Int.toNat ((a : Int) + 1) < n - Int.toNat (a : Int))) := fun {E bv'} hCE hRE hbE fE => by
        refine ⟨_, hCE.cell (j := 1) rfl, by omega, ?_⟩
        rw [iBit _ (by omega), ibit_nat]
        by_cases hbit : L[k].2.testBit a = true
        · rw [if_pos hbit]
          exact cT rfl ⟨by unfold inR; omega, ⟨a + 1, bv', by omega, by omega, by unfold toF; rw [if_pos hbit], hRE, hbE, fE⟩, by omega⟩
        · rw [if_neg hbit]
          exact cF rfl ⟨by unfold inR; omega, ⟨a + 1, bv', by omega, by omega, by conv => rhs; unfold toF; rw [if_neg hbit], hRE, hbE, fE⟩, by omega⟩
      refine ⟨_, hC50.cell (j := 0) rfl, by omega, ?_⟩
      rw [iBit _ (by omega), ibit_nat]
      have hbs := bodyN_succ a L[k].1
      by_cases hbit : L[k].1.testBit a = true
      · rw [if_pos hbit]
        rw [if_pos hbit] at hbs
        have hbl := bodyN_len a L[k].1
        refine cT rfl fun m => ?_
        obtain ⟨wd, ewd⟩ : ∃ wd, wd = dr w50 m.1 := ⟨_, rfl⟩
        have gd : Grow w50 wd := by rw [ewd]; exact (Grow.refl w50).dr m.1
        rw [← ewd]
        have hRd := hR50.grow gd
        have zd := gd.size
        have leaf : ∀ {E : World} {u : Value}, OwnI E wd.heap.size u [-((1 : Nat) : Int)] → Grow wd E → ∀ {E2 : World}, E2 = E.alloc (.cells #[.bool false, .int .i64 (a : Int), u] 50) →
            PApp Try.prog 46 46 bv (.slice (some ⟨E.heap.size, 0, none⟩) 1 1) E2 fun v2 w2 => oneV v2 ∧ (∃ old, w2.cell? (Addr.add ⟨R0, 0, none⟩ 2) = some old) ∧ w2.frozen? (Addr.add ⟨R0, 0, none⟩ 2) = false ∧ ∀ w66, w66 = w2.setCell (Addr.add ⟨R0, 0, none⟩ 2) v2 →
              ∃ t67 : Int, w66.cell? (Addr.add ⟨C, 0, none⟩ 1) = some (.int .i64 t67) ∧ (0 : Int) ≤ (a : Int) ∧ condP (decide ((iAnd .i64 (iShr .i64 t67 (a : Int)) 1) = (1 : Int))) (inR ((a : Int) + 1) ∧ (InCl n L[k] R0 D0 w43 (a : Int) ((a : Int) + 1) w66 ∧ n - Int.toNat ((a : Int) + 1) < n - Int.toNat (a : Int))) (inR ((a : Int) + 1) ∧ (InCl n L[k] R0 D0 w43 (toF L[k].2 a) ((a : Int) + 1) w66 ∧ n - Int.toNat ((a : Int) + 1) < n - Int.toNat (a : Int))) := fun {E u} ho gE {E2} hE2 => by
          have gE2 := alloc_grow hE2
          have zE := gE.size
          have lowB : ∀ b, bv.ownBlock = some b → D0 ≤ b ∧ b < w50.heap.size := fun b hb => OwnX.lt hb50 hb
          refine pappX1 el_lit (by omega) (cs := [.bool false, .int .i64 (a : Int), u]) (y := a) (OwnX.grow hb50 (gd.trans gE)) hE2 (elx_lit ho (fun b hb => by show b < wd.heap.size; omega) fun b hb => by have := (lowB b hb).2; omega) (by omega) (by omega) (by omega) ?_
          intro v2 w2 ho2 hf2 _ _
          have f2 : Fr (fun i => some i = bv.ownBlock) w50 w2 := (Fr.of_grow ((gd.trans gE).trans gE2)).trans hf2
          have hR2 : RecV w2 R0 [.int .i64 0, .slice none 0 0, bv] := hR50.fr f2 fun e => by have := (lowB _ e.symm).1; omega
          refine ⟨OwnX.one ho2, ⟨_, hR2.cell (j := 2) rfl⟩, hR2.free 2, fun w66 hw66 => ?_⟩
          have f66 : Fr (fun i => i = R0) w2 w66 := RecV.set_fr hw66
          refine toStep (bv' := v2) ((hC50.fr f2 fun e => by have := (lowB _ e.symm).1; omega).fr f66 (by omega)) (by have := hR2.set hw66; exact this) ?_ ?_
          · rw [hbs]
            exact OwnX.fr ho2 f66 (fun b e => by show b < D0; omega) fun b hb e => by have := (OwnX.lt ho2 hb).1; omega
          · refine Fr.mono (S := fun i => i = R0 ∨ some i = bv.ownBlock) ((f50.mono fun i _ e => .inl e).trans ((f2.mono fun i _ e => .inr e).trans (f66.mono fun i _ e => .inl e))) fun i hi e => ?_
            rcases e with e | e
            · exact e
            · have := (lowB _ e.symm).1; omega
        refine ⟨⟨_, hRd.cell (j := 2) rfl, 15, #[], #[], rfl, by kernel_rfl, ?_⟩, 15, #[], #[], rfl, by kernel_rfl, ?_⟩
        · rw [appQ0]
          refine atom1_c.mono ?_
          rintro e E ⟨u, rfl, ho, gE⟩
          exact ⟨_, rfl, _, _, rfl, bs1 el_lit (by omega) (by omega) (cs := #[.bool false, .int .i64 (a : Int), u]) rfl E fun E2 hE2 => leaf ho gE hE2⟩
        · rw [appQ0]
          refine atom1_c.mono ?_
          rintro e E ⟨u, rfl, ho, gE⟩
          refine ⟨_, rfl, _, _, rfl, ⟨_, (hRd.grow gE).cell (j := 2) rfl, bs1 el_lit (by omega) (by omega) (cs := #[.bool false, .int .i64 (a : Int), u]) rfl E fun E2 hE2 => leaf ho gE hE2⟩, bs1 el_lit (by omega) (by omega) (cs := #[.bool false, .int .i64 (a : Int), u]) rfl E fun E2 hE2 => ⟨_, ((hRd.grow gE).grow (alloc_grow hE2)).cell (j := 2) rfl, leaf ho gE hE2⟩⟩
      · rw [if_neg hbit]
        rw [if_neg hbit, List.append_nil] at hbs
        exact cF rfl (toStep hC50 hR50 (by rw [hbs]; exact hb50) f50)
    · have han : a = n := by omega
      rw [han] at hb50 ⊢
      have hI50 := hI.grow g3450
      have g050 := g034.trans g3450
      have stay : stepD n L[k] = [] → inR ((k : Int) + 1) ∧ ((∃ k' : Nat, (k : Int) + 1 = k' ∧ k' ≤ L.length ∧ ClI n L w19 k' w50 dv av) ∧ L.length - Int.toNat ((k : Int) + 1) < L.length - Int.toNat (k : Int)) := fun e => by
        rw [e, List.append_nil] at hks
        refine ⟨by unfold inR; omega, ⟨k + 1, by omega, by omega, ?_, ?_, hI50.ne, hI50.gr⟩, by omega⟩
        · rw [hks]; exact hI50.dep
        · rw [hks]; exact hI50.all
      refine condD (fun hto => stay (by unfold stepD; rw [if_pos hto])) fun hto => ⟨_, hR50.cell (j := 2) rfl, OwnX.ln hb50 (condD (fun h3 => stay (by unfold stepD; rw [if_neg hto, if_pos (by omega)])) fun h3 => ?_)⟩
      obtain ⟨to, hto'⟩ : ∃ to : Nat, toF L[k].2 n = to := ⟨(toF L[k].2 n).toNat, by omega⟩
      have hton : to < n := by have := toF_lt L[k].2 n; omega
      have hst : stepD n L[k] = [(L[k].1, to)] := by unfold stepD; rw [if_neg hto, if_neg (by omega), hto']; rfl
      rw [hst] at hks
      rw [hto']
      refine ⟨15, #[], #[], rfl, by kernel_rfl, ?_⟩
      rw [appQ0]
      refine atom1_c.mono ?_
      rintro e w95 ⟨u, rfl, hu, g95⟩
      have z95 := g95.size
      refine ⟨_, rfl, VC.RecV.head (hR50.grow g95) rfl (Own.one hu).2 fun w101 f101 hR101 => ⟨[_, _, _], rfl, hR101.all, bs1 el_rule (by omega) (by omega) (cs := #[.int .i64 (to : Int), u, bv]) rfl w101 fun w104 hw104 => ?_⟩⟩
      have g104 := alloc_grow hw104
      have z101 := f101.size
      have z104 := alloc_size hw104
      have g34101 : Grow w34 w101 := (g3450.trans g95).fr f101 fun i hi e => by omega
      have hI101 := hI.grow g34101
      have hu101 : OwnI w101 w50.heap.size u [-((1 : Nat) : Int)] := Own.fr hu f101 fun b hb e => by have := (Own.lt hu hb).1; omega
      have hb101 : OwnBody D0 w101 bv (bodyN n L[k].1) := OwnX.fr (OwnX.grow hb50 g95) f101 (fun b e => by show b < D0; omega) fun b hb e => by have := (OwnX.lt hb50 hb).1; omega
      have hC101 := (hC50.grow g95).fr f101 (by omega)
      refine pappX1 el_rule (by omega) (cs := [.int .i64 (to : Int), u, bv]) (y := (to, bodyN n L[k].1)) hI101.all hw104 (elx_rule hu101 hb101 (by omega) (fun b hb => by have := (lowD b hb).2; omega) fun b hb => by have := (lowA b hb).2; omega) (by omega) (by rw [hrl]; have := hK10 k; omega) (by omega) ?_
      intro av' w107 hav' f107 _ hbl m
      obtain ⟨wd, ewd⟩ : ∃ wd, wd = dr w107 m.1 := ⟨_, rfl⟩
      have gd : Grow w107 wd := by rw [ewd]; exact (Grow.refl w107).dr m.1
      rw [← ewd]
      have z107 := f107.size
      have zd := gd.size
      have fd : Fr (fun i => some i = av.ownBlock) w101 wd := (Fr.of_grow g104).trans (f107.trans (Fr.of_grow gd))
      have hCd := hC101.fr fd fun e => by have := (lowA _ e.symm).2; omega
      refine ⟨by omega, _, hCd.cell (j := 0) rfl, ?_⟩
      rw [iShl_one (by omega)]
      have hp2 : (2 : Nat) ^ to < 2 ^ n := Nat.pow_lt_pow_right (by omega) hton
      refine bs1 el_dep (by omega) (by omega) (cs := #[.int .i64 (L[k].1 : Int), .int .i64 ((2 ^ to : Nat) : Int)]) rfl wd fun w110 hw110 => ?_
      have g110 := alloc_grow hw110
      have hdd : OwnD wd w19.heap.size dv (depsD (keptD n (L.take k))) := Own.fr hI101.dep fd fun b hb e => hI.ne b hb e.symm
      refine pappRk el_dep (by omega) spF_len spF_one (x := ((L[k].1 : Int), ((2 ^ to : Nat) : Int))) (xs := encD (depsD (keptD n (L.take k)))) hw110 (by rw [encD_len]; exact hdd) (by omega) (by rw [encD_len, hdl]; have := hK10 k; omega) (by omega) fun dv' w113 hdv' f113 hbl' => ?_
      have z110 := alloc_size hw110
      have z113 := f113.size
      have lowA' : ∀ b, av'.ownBlock = some b → w19.heap.size ≤ b ∧ b < w107.heap.size := fun b hb => OwnX.lt hav' hb
      have ea : rulesD n (keptD n (L.take (k + 1))) = rulesD n (keptD n (L.take k)) ++ [(to, bodyN n L[k].1)] := by rw [hks]; simp [rulesD]
      have ed : depsD (keptD n (L.take (k + 1))) = depsD (keptD n (L.take k)) ++ [(L[k].1, 2 ^ to)] := by rw [hks]; simp [depsD]
      have hne' : ∀ b, av'.ownBlock = some b → dv.ownBlock ≠ some b := fun b hb e => by
        rcases hbl b hb with h | h
        · exact hI.ne b e h.symm
        · have := (lowD b e).2; omega
      refine ⟨by unfold inR; omega, ⟨k + 1, by omega, by omega, ?_, ?_, fun b hb e => ?_, ?_⟩, by first | omega | (dsimp only; omega)⟩
      · rw [ed]
        refine OwnD.snoc ?_
        have e1 : (encD (depsD (keptD n (L.take k))) ++ [((L[k].1 : Int), ((2 ^ to : Nat) : Int))]).length = (depsD (keptD n (L.take k))).length + 1 := by rw [List.length_append, encD_len]; rfl
        rw [e1, List.flatMap_append] at hdv'
        simpa using hdv'
      · rw [ea]
        have h1 := VC.OwnX.fresh (OwnX.grow hav' gd)
        have h2 := OwnX.fr (OwnX.grow h1 g110) f113 (fun b e => .inl e.symm) fun b hb e => hne' b hb e.symm
        exact OwnX.weaken h2 fun b hb => (hbl' b hb).imp Eq.symm id
      · rcases hbl' b hb with h | h
        · exact hne' b e h.symm
        · have := (lowA' b e).2; omega
      · refine Grow.fr (Grow.fr (hI101.gr) fd fun i hi e => by have := (lowA _ e.symm).1; omega) ((Fr.of_grow (S := fun i => some i = dv.ownBlock) g110).trans f113) fun i hi e => ?_
        have := (lowD _ e.symm).1
        omega
  · have hkn : k = L.length := by omega
    subst hkn
    have hdep := hI.dep
    have hall := hI.all
    have hKm : ∀ e ∈ keptD n L, e.1 < 2 ^ n ∧ e.2 < n ∧ (bodyN n e.1).length ≤ 3 := fun e he => by
      obtain ⟨⟨d, hd, e1⟩, h2, h3⟩ := mem_keptD he
      exact ⟨by rw [e1]; exact (hL d hd).1, h2, h3⟩
    have hK := hK10 L.length
    rw [List.take_length] at hdep hall hK
    refine ⟨fun fv t w' => ∃ a : Nat, t = a ∧ a ≤ n ∧ OwnF w' w34.heap.size fv (factsN 1 (bodyN a s)) ∧ Grow w34 w', fun _ t _ => n - t.toNat, ⟨0, rfl, by omega, OwnX.nil _ _ _, Grow.refl _⟩, ?_⟩
    rintro - fv t w119 ⟨a, rfl, ha, hF, g119⟩
    refine condD (fun hlt2 => ?_) fun hge2 => ?_
    · have han : a < n := by omega
      refine ⟨by omega, ?_⟩
      rw [iBit _ (by omega), ibit_nat]
      have hbs := bodyN_succ a s
      by_cases hbit : s.testBit a = true
      · rw [if_pos hbit]
        rw [if_pos hbit] at hbs
        have hbl := bodyN_len a s
        refine cT rfl fun w120 hw120 => ?_
        have g120 := alloc_grow hw120
        have z119 := g119.size
        have z120 := alloc_size hw120
        have hu : OwnI w120 w119.heap.size (.slice (some ⟨w119.heap.size, 0, none⟩) 1 1) [((1 : Nat) : Int)] := Own.lit (B := w119.heap.size) (n := 1) (sz := 1) hw120 (by omega) (by omega) (by simp)
        refine ⟨Own.one hu, bs1 el_fact (by omega) (by omega) (cs := #[.int .i64 (a : Int), .slice (some ⟨w119.heap.size, 0, none⟩) 1 1]) rfl w120 fun w121 hw121 => ?_⟩
        have lowF : ∀ b, fv.ownBlock = some b → w34.heap.size ≤ b ∧ b < w119.heap.size := fun b hb => OwnX.lt hF hb
        refine pappX1 el_fact (by omega) (cs := [.int .i64 (a : Int), .slice (some ⟨w119.heap.size, 0, none⟩) 1 1]) (y := ((a : Int), [((1 : Nat) : Int)])) (OwnX.grow hF g120) hw121 (elx_own hu (fun b hb => by show b < w119.heap.size; omega) fun b hb => (lowF b hb).2) (by omega) (by simp [factsN]; omega) (by omega) ?_
        intro v2 w124 ho2 hf2 _ _
        refine ⟨by unfold inR; omega, ⟨a + 1, by omega, by omega, by rw [hbs, factsN_snoc]; exact ho2, ?_⟩, by first | omega | (dsimp only; omega)⟩
        exact ((g119.trans g120).trans (alloc_grow hw121)).fr hf2 fun i hi e => by have := (lowF _ e.symm).1; omega
      · rw [if_neg hbit]
        rw [if_neg hbit, List.append_nil] at hbs
        exact cF rfl ⟨by unfold inR; omega, ⟨a + 1, by omega, by omega, by rw [hbs]; exact hF, g119⟩, by first | omega | (dsimp only; omega)⟩
    · have han : a = n := by omega
      rw [han] at hF
      have hd119 : SlD w119 dv (depsD (keptD n L)) := OwnD.sl (Own.grow hdep g119)
      refine (closureN_c (a := s) hd119 (by rw [hdl]; omega) (by omega) (by omega) (fun d hd => ?_) hs).mono ?_
      · obtain ⟨e, he, rfl⟩ := List.mem_map.1 hd
        obtain ⟨h1, h2, -⟩ := hKm e he
        exact ⟨h1, Nat.pow_lt_pow_right (by omega) h2⟩
      rintro e w125 ⟨rfl, g125⟩
      have g34125 := g119.trans g125
      have bl6 := bodyN_len n s
      refine ⟨_, _, rfl, (Model_c (c := 1) (by omega) (by omega) (RL := rulesD n (keptD n L)) (l := bodyN n s) ((OwnX.slX hall).grow (repRule_mono 1) g34125) ((OwnX.slX hF).grow repA_mono g125) ⟨by rw [hrl]; omega, fun r hr => ?_⟩ (by omega) fun r hr => ?_).mono ?_⟩
      · obtain ⟨e, he, rfl⟩ := List.mem_map.1 hr
        obtain ⟨h1, h2, h3⟩ := hKm e he
        exact ⟨by dsimp only; omega, h3, fun b hb => by have := (mem_bodyN.1 hb).1; omega⟩
      · have := (mem_bodyN.1 hr).1
        omega
      rintro e w129 ⟨v, Lm, S, rfl, hv, hp, hnd, hLe, g129⟩
      have g0129 := (g034.trans g34125).trans g129
      obtain ⟨S2, hS2, rfl⟩ := facts_perm hp
      have hS6 : ∀ r ∈ S2, r < 6 := fun r hr => by
        refine hLe.least (fun r => r < 6) (fun r hr => ?_) (fun r hr _ => ?_) r (hS2.mem_iff.1 hr)
        · have := (mem_bodyN.1 hr).1
          omega
        · obtain ⟨e, he, rfl⟩ := List.mem_map.1 hr
          have := (hKm e he).2.1
          dsimp only
          omega
      have hfin : orL S2 = clF (depsD (keptD n L)) s := (orL_perm hS2).trans (least_cl hs (fun d hd => (hKm d hd).1) hLe)
      have hfl : (factsN 1 S2).length = S2.length := by simp [factsN]
      refine ⟨_, _, rfl, SlX.ln hv ⟨fun got t w' => ∃ j : Nat, t = j ∧ j ≤ S2.length ∧ got = (orL (S2.take j) : Nat) ∧ Grow w129 w', fun _ t _ => S2.length - t.toNat, ⟨0, rfl, by omega, rfl, Grow.refl _⟩, ?_⟩⟩
      have hle := SlX.len_le hv
      rintro - got t w141 ⟨j, rfl, hj, rfl, g141⟩
      refine condD (fun hlt3 => ?_) fun hge3 => ?_
      · have hjl : j < S2.length := by omega
        have hjf : j < (factsN 1 S2).length := by omega
        have ej : (factsN 1 S2)[j] = (((S2[j] : Nat) : Int), [((1 : Nat) : Int)]) := by simp [factsN]
        have hj6 := hS6 _ (List.getElem_mem hjl)
        refine SlX.loc (hv.gr g141) rfl hjf rfl fun w147 u g147 s147 hu c0 c1 => ?_
        rw [ej] at c0
        have hor := orL_lt (l := S2.take j) fun r hr => hS6 r (List.mem_of_mem_take hr)
        have e7 : iAnd .i64 ((S2[j] : Nat) : Int) 7 = ((S2[j] : Nat) : Int) := by
          have := iAnd_nat (a := S2[j]) (b := 7) (by omega) (by omega)
          rw [show ((7 : Nat) : Int) = 7 from rfl] at this
          rw [this, show (7 : Nat) = 2 ^ 3 - 1 from rfl, Nat.and_two_pow_sub_one_eq_mod, Nat.mod_eq_of_lt (by omega)]
        have hpw : (2 : Nat) ^ S2[j] ≤ 2 ^ 6 := Nat.pow_le_pow_right (by omega) (by omega)
        refine ⟨_, c0, ?_⟩
        rw [e7, iShl_one (by omega), iOr_nat (by omega) (by omega), ← orL_snoc, ← List.take_succ_eq_append_getElem hjl]
        exact ⟨by omega, by unfold inR; omega, ⟨j + 1, by omega, by omega, rfl, g141.trans g147⟩, by first | omega | (dsimp only; omega)⟩
      · have hjn : j = S2.length := by omega
        subst hjn
        rw [List.take_length, hfin]
        exact cT rfl (cT rfl (cT (decide_eq_true rfl) (fin (g0129.trans g141))))
theorem topClosureW_c {w : World} {n s : Int} {lv : Value} {D : List (Int × Int)} (_ : (Lit.int .i64 n).wf = true) (hD : SlR spF w lv D) (_ : (Lit.int .i64 s).wf = true) : Calls Try.prog 4 #[.int .i64 n, lv, .int .i64 s] w (Ret w (.bool true)) := topClosure_c hD
end Go.Proofs.Ytleiddajojgmmaa
