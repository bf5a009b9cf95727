/- Contracts: trailing zeros, the facts of a repair. The table of bits is laid (Tab). -/
import Derived.Test.YtmjpnfapjcfejaaDoorRh
import Derived.Test.YtmjpnfapjcfejaaDoorRd
namespace Go.Proofs.YtmjpnfapjcfejaaDoor
open Go Go.RowKit VC
set_option linter.unusedSimpArgs false
set_option linter.unusedVariables false

def tab64 : List Nat := [0, 1, 56, 2, 57, 49, 28, 3, 61, 58, 42, 50, 38, 29, 17, 4, 62, 47, 59, 36, 45, 43, 51, 22, 53, 39, 33, 30, 24, 18, 12, 5, 63, 55, 48, 27, 60, 41, 37, 16, 46, 35, 44, 21, 52, 32, 23, 11, 54, 26, 40, 15, 34, 20, 31, 10, 25, 14, 19, 9, 13, 8, 7, 6]
/-- The table of package math/bits stands where it stood at the start. -/
def Tab (w : World) : Prop := ∀ j, j < 64 → w.cell? (Addr.add ⟨1, 0, none⟩ j) = some (.int .u8 (tab64.getD j 0 : Nat))
theorem Tab.grow {w w' : World} (h : Tab w) (hg : Grow w w') : Tab w' := fun j hj => hg.cell (h j hj)
def tzIdx (s : Nat) : Int := iShr .u64 (IntKind.wrap .u64 ((iAnd .u64 (s : Int) (IntKind.wrap .u64 (0 - (s : Int)))) * 285870213051353865)) 58
def tzOk (s : Nat) : Bool := s == 0 || (decide (0 ≤ tzIdx s) && decide (tzIdx s < 64) && tab64.getD (tzIdx s).toNat 0 == tz s)
theorem tzAll' : ∀ a, a < 64 → ∀ b, b < 64 → tzOk (a * 64 + b) = true := by decide +kernel
theorem tz64_c {s : Nat} (h : s < 4096) (h0 : s ≠ 0) {w : World} (hT : Tab w) : Calls Tryd.prog 87 #[.int .u64 (s : Int)] w (Ret w (.int .i64 (tz s : Int))) := by
  refine f87_calls _ ?_
  have hk := all4096 (p := fun s => tzOk s = true) tzAll' s h
  simp only [tzOk, Bool.or_eq_true, beq_iff_eq, h0, false_or, Bool.and_eq_true, decide_eq_true_eq] at hk
  obtain ⟨⟨h1, h2⟩, h3⟩ := hk
  have h4 := (els_step h h0).2.2
  have h5 : ¬ (s : Int) = 0 := by omega
  refine condD (fun e => absurd e h5) fun _ => ⟨by decide, ⟨h1, h2⟩, (tz s : Int), ?_, ?_⟩
  · have hlt : (tzIdx s).toNat < 64 := by clear h3; generalize tzIdx s = z at *; omega
    have hc := hT (tzIdx s).toNat hlt
    rw [h3, ← Nat.mul_one (tzIdx s).toNat] at hc
    exact hc
  · refine ⟨?_, Grow.refl w⟩
    rw [wrap_nat (by omega)]
theorem tz_c {s : Nat} (h : s < 4096) (h0 : s ≠ 0) {w : World} (hT : Tab w) : Calls Tryd.prog 62 #[.int .u64 (s : Int)] w (Ret w (.int .i64 (tz s : Int))) := by
  refine f62_calls _ ?_
  refine (tz64_c h h0 hT).mono ?_
  rintro e w' ⟨rfl, hg⟩
  exact ⟨_, rfl, rfl, hg⟩
theorem wrapU {n : Nat} (h : n < 9223372036854775808) : IntKind.u64.wrap (n : Int) = n := by
  have : IntKind.u64.wrap (n : Int) = (n : Int) % 2 ^ 64 := by simp [IntKind.wrap, IntKind.signed, IntKind.bits]
  rw [this]; omega
theorem ofM_els {L : List Atm} (h12 : L.length ≤ 12) {m : Nat} (hm : m < 2 ^ L.length) : ofM L m = (els m).map (fa L) := by
  unfold ofM
  have := bitsOf_els h12 hm
  unfold bitsOf at this
  rw [this]
/-- An element that lies in older memory. -/
theorem elx_old {T : Nat → Prop} {w w0 : World} {a : Atm} {u out : Value} (hu : SlI w0 u a.2) (g : Grow w0 w) (hT : ∀ b, T b → w0.heap.size ≤ b) (hout : ∀ b, out.ownBlock = some b → w0.heap.size ≤ b) : ElX T 2 repA out w ([.int .i64 a.1, u], a) := by
  refine ⟨rfl, ?_, fun w2 hf => ⟨u, rfl, hu.grow (g.fr hf fun i hi e => ?_)⟩⟩
  · intro y hy
    simp at hy
    rcases hy with rfl | rfl
    · rfl
    · exact hu.one.2
  · rcases e with e | e
    · have := hT i e; omega
    · have := hout i e.symm; omega
theorem chosen_c {w : World} {sv fv : Value} {L : List Atm} (hl : SlA w fv L) (h12 : L.length ≤ 12) {m : Nat} (hm : m < 2 ^ L.length) (hT : Tab w) :
    Calls Tryd.prog 73 #[.agg #[sv, fv], .int .i64 (m : Int)] w fun e w' => ∃ v, e = .returned v ∧ SlA w' v (ofM L m) ∧ Grow w w' := by
  refine f73_calls _ _ ?_
  refine ⟨_, rfl, fun w1 hw1 => ?_⟩
  have g1 := alloc_grow hw1
  have s1 := alloc_size hw1
  have hB := RecV.new hw1
  have hpow : 2 ^ L.length ≤ 2 ^ 12 := Nat.pow_le_pow_right (by omega) h12
  refine ⟨fun left out w' => ∃ (l : Nat) (done : List Nat), left = l ∧ done ++ els l = els m ∧ l < 2 ^ L.length ∧ (∀ i, l.testBit i = true → m.testBit i = true) ∧ OwnX (fun b => w.heap.size ≤ b) 2 repA w' w1.heap.size 57 out (done.map (fa L)) ∧ Grow w1 w', fun left _ _ => left.toNat, ⟨m, [], rfl, rfl, hm, fun i h => h, OwnX.nil _ _ _, Grow.refl _⟩, ?_⟩
  rintro - left out w8 ⟨l, done, rfl, hd, hl2, hsub, ho, g8⟩
  refine condP_i (fun hne => ?_) fun heq => ?_
  · have hl0 : l ≠ 0 := by simp at hne; omega
    have hl4 : l < 4096 := by omega
    obtain ⟨e1, e2, e3⟩ := els_step hl4 hl0
    have htz : tz l < L.length := by
      have : tz l ∈ els l := by rw [e1]; exact List.mem_cons_self ..
      exact bit_lt hl2 (mem_els.1 this).2
    intro d
    have gd : Grow w8 (dr w8 d.1) := (Grow.refl w8).dr d.1
    rw [wrapU (by omega)]
    have hdl : done.length ≤ 12 := by
      have := congrArg List.length hd
      rw [List.length_append] at this
      have h2 : (els m).length ≤ 12 := by
        have := List.length_filter_le m.testBit (List.range 12)
        rwa [List.length_range] at this
      omega
    have leaf : ∀ {w11}, Grow (dr w8 d.1) w11 → ∃ (a_v14 : Addr) (n_v15 c_v16 : Nat), fv = Value.slice (some a_v14) n_v15 c_v16 ∧ ((0 : Int) ≤ (tz l : Int) ∧ (tz l : Int) < (n_v15 : Int)) ∧ ∃ cs_v17 : List Value, cs_v17.length = 2 ∧ (∀ (j : Nat) (v : Value), cs_v17[j]? = some v → w11.cell? (Addr.add (a_v14.add (Int.toNat (tz l : Int) * 2)) j) = some v) ∧ ∃ t_v19 : Value, ∃ w_v18 : World, (Instr.buildSlice 23 1 #[(0, (Value.agg cs_v17.toArray))]).run Tryd.prog w11 = .ok t_v19 w_v18 ∧ PApp Tryd.prog 23 23 out t_v19 w_v18 fun t_v20 w_v21 => inR ((l : Int) - 1) ∧ ((∃ (l' : Nat) (done : List Nat), iAnd .i64 (l : Int) ((l : Int) - 1) = l' ∧ done ++ els l' = els m ∧ l' < 2 ^ L.length ∧ (∀ i, l'.testBit i = true → m.testBit i = true) ∧ OwnX (fun b => w.heap.size ≤ b) 2 repA w_v21 w1.heap.size 57 t_v20 (done.map (fa L)) ∧ Grow w1 w_v21) ∧ (iAnd .i64 (l : Int) ((l : Int) - 1)).toNat < (l : Int).toNat) := fun {w11} g11 => by
      have g111 := (g8.trans gd).trans g11
      refine SlX.rd (pinR hl (g1.trans g111)) rfl htz fun cs hcl hr => ?_
      obtain ⟨u, rfl, hu⟩ := hr
      refine bs1 el_fact (by omega) (by omega) (cs := #[.int .i64 (L[tz l]).1, u]) rfl w11 fun w18 hw18 => ?_
      have hs8 := g8.size
      have hs11 := g111.size
      refine pappX1 el_fact (by omega) (cs := [.int .i64 (L[tz l]).1, u]) (y := L[tz l]) (ho.grow (gd.trans g11)) hw18 (elx_old hu (g1.trans g111) (fun b hb => hb) fun b hb => by have := (ho.lt hb).1; omega) (by omega) (by rw [List.length_map]; omega) (by omega) ?_
      intro v2 w21 ho2 hf2 _ _
      have e4 : iAnd .i64 (l : Int) ((l : Int) - 1) = ((l &&& (l - 1) : Nat) : Int) := by rw [show ((l : Int) - 1) = ((l - 1 : Nat) : Int) by omega, iAnd_nat (by omega) (by omega)]
      rw [e4]
      refine ⟨by unfold inR; omega, ⟨l &&& (l - 1), done ++ [tz l], rfl, ?_, by omega, fun i hi => ?_, ?_, ?_⟩, by omega⟩
      · rw [List.append_assoc, ← hd, e1]
        rfl
      · rw [Nat.testBit_and, Bool.and_eq_true] at hi
        exact hsub i hi.1
      · rw [List.map_append, List.map_cons, List.map_nil, fa_get htz]
        exact ho2
      · exact (g111.trans (alloc_grow hw18)).fr hf2 fun b hb e => by have := (ho.lt e.symm).1; omega
    have hc1 : ∀ {w'}, Grow (dr w8 d.1) w' → w'.cell? (Addr.add ⟨w.heap.size, 0, none⟩ 1) = some fv := fun g => ((hB.grow g8).grow (gd.trans g)).cell (j := 1) rfl
    refine ⟨⟨_, hc1 (Grow.refl _), (tz_c hl4 hl0 (hT.grow ((g1.trans g8).trans gd))).mono ?_⟩, (tz_c hl4 hl0 (hT.grow ((g1.trans g8).trans gd))).mono ?_⟩
    · rintro e w11 ⟨rfl, g11⟩
      exact ⟨_, rfl, leaf g11⟩
    · rintro e w11 ⟨rfl, g11⟩
      exact ⟨_, rfl, _, hc1 g11, leaf g11⟩
  · have hl0 : l = 0 := by simp at heq; omega
    subst hl0
    rw [els_zero, List.append_nil] at hd
    refine ⟨_, rfl, ?_, g1.trans g8⟩
    rw [ofM_els h12 hm, ← hd]
    exact ho.slX
/-! ## Questions -/
/-- Why a query cannot be asked, or 0. -/
def askE (q : Bool) (s h : List Int) (b L : List Atm) : Int := if okR s L && !(q && decide (0 < h.length)) then (askO h b L).1 else 2
theorem ask_c {w : World} {sv fv hv bv : Value} {s h : List Int} {b L : List Atm} {q : Bool} (hs : SlI w sv s) (hl : SlA w fv L) (hh : SlI w hv h) (hb : SlA w bv b) :
    Calls Tryd.prog 44 #[sv, fv, .agg #[hv, bv], .bool q] w fun e w' => ∃ x y, e = .returned (.tuple #[.agg #[x, y], .int .i64 (askE q s h b L)]) ∧ oneV x ∧ oneV y ∧ (askE q s h b L = 0 → x = sv ∧ y = fv) ∧ Grow w w' := by
  refine f44_calls _ _ _ _ ?_
  refine ⟨_, rfl, fun w1 hw1 w3 hw3 => ?_⟩
  have g1 := alloc_grow hw1
  have s1 := alloc_size hw1
  have g3 := alloc_grow hw3
  have s3 := alloc_size hw3
  have hQ := (RecV.new hw1).grow g3
  have hO := RecV.new hw3
  have g03 := g1.trans g3
  refine (read_c (hs.grow g03) (hl.gr g03)).mono ?_
  rintro e w4 ⟨x, y, rfl, hx, hy, hxy, g4⟩
  refine ⟨_, _, rfl, fun w8 hw8 => RecV.init (cs := [x, y]) hw8 rfl (by simp [hx.2, hy.2]) fun w9 g9 s9 hB => ?_⟩
  have g39 := g4.trans g9
  have g09 := g03.trans g39
  have hO9 := hO.grow g39
  have hQ9 := hQ.grow g39
  have nl : oneV (.slice none 0 0) := ⟨rfl, rfl⟩
  have no : ∀ {z}, z ≠ 0 → askE q s h b L = z → ∃ cs : Array Value, (Value.agg #[(.slice none 0 0), (.slice none 0 0)]) = .agg cs ∧ cs.size = 2 ∧ ∃ w2 : World, (storeCells ⟨w1.heap.size, 0, none⟩ cs.toList).run Tryd.prog w9 = .ok () w2 ∧ ∃ ds : List Value, ds.length = 2 ∧ (∀ (j : Nat) (v : Value), ds[j]? = some v → w2.cell? (Addr.add ⟨w1.heap.size, 0, none⟩ j) = some v) ∧
      ∃ x y, Ending.returned (.tuple #[.agg ds.toArray, .int .i64 z]) = .returned (.tuple #[.agg #[x, y], .int .i64 (askE q s h b L)]) ∧ oneV x ∧ oneV y ∧ (askE q s h b L = 0 → x = sv ∧ y = fv) ∧ Grow w w2 := fun {z} hz he => by
    refine RecV.store (cs := [.slice none 0 0, .slice none 0 0]) hO9 rfl (by simp [Value.oneCell']) fun w2 hf hr => ⟨[_, _], rfl, hr.all, _, _, (by rw [he]), nl, nl, fun h => absurd (he.symm.trans h) hz, g09.fr hf fun i hi e => by omega⟩
  have yes : okR s L = true → askE q s h b L = (askO h b L).1 → ∃ cs_v21 : List Value, cs_v21.length = 2 ∧ (∀ (j : Nat) (v : Value), cs_v21[j]? = some v → w9.cell? (Addr.add ⟨w.heap.size, 0, none⟩ j) = some v) ∧ Calls Tryd.prog 25 #[(Value.agg cs_v21.toArray), fv] w9 fun e_v23 w_v22 => ∃ t_v24 : Int, ∃ t_v25 : Int, e_v23 = .returned (Value.tuple #[(Value.int .i64 t_v24), (Value.int .i64 t_v25)]) ∧ ∃ cs_v26 : List Value, cs_v26.length = 2 ∧ (∀ (j : Nat) (v : Value), cs_v26[j]? = some v → w_v22.cell? (Addr.add ⟨w4.heap.size, 0, none⟩ j) = some v) ∧ ∃ cs_v28 : Array Value, (Value.agg cs_v26.toArray) = Value.agg cs_v28 ∧ cs_v28.size = 2 ∧ ∃ w_v27 : World, (storeCells ⟨w1.heap.size, 0, none⟩ cs_v28.toList).run Tryd.prog w_v22 = .ok () w_v27 ∧ ∃ cs_v29 : List Value, cs_v29.length = 2 ∧ (∀ (j : Nat) (v : Value), cs_v29[j]? = some v → w_v27.cell? (Addr.add ⟨w1.heap.size, 0, none⟩ j) = some v) ∧
      ∃ x y, Ending.returned (.tuple #[.agg cs_v29.toArray, .int .i64 t_v25]) = .returned (.tuple #[.agg #[x, y], .int .i64 (askE q s h b L)]) ∧ oneV x ∧ oneV y ∧ (askE q s h b L = 0 → x = sv ∧ y = fv) ∧ Grow w w_v27 := fun hk he => by
    obtain ⟨rfl, rfl⟩ := hxy hk
    refine ⟨[_, _], rfl, hQ9.all, (count_c (hh.grow g09) (hb.gr g09) (hl.gr g09)).mono ?_⟩
    rintro e w22 ⟨rfl, g22⟩
    refine ⟨_, _, rfl, [_, _], rfl, (hB.grow g22).all, RecV.store (cs := [x, y]) (hO9.grow g22) rfl (by simp [hx.2, hy.2]) fun w27 hf hr => ⟨[_, _], rfl, hr.all, x, y, (by rw [he]), hx, hy, fun _ => ⟨rfl, rfl⟩, (g09.trans g22).fr hf fun i hi e => by omega⟩⟩
  refine condP_i (fun hn => ?_) fun hk => ?_
  · have hn : okR s L = false := by simpa using hn
    exact no (by decide) (by simp [askE, hn])
  have hk : okR s L = true := by simpa using hk
  cases q with
  | true =>
    refine cT rfl ⟨_, hQ9.cell (j := 0) rfl, (hh.grow g09).ln (condD (fun h0 => no (by decide) ?_) fun h0 => yes hk ?_)⟩
    · have : 0 < h.length := by omega
      simp [askE, this]
    · have : ¬ 0 < h.length := by omega
      simp [askE, this, hk]
  | false => exact cF rfl (yes hk (by simp [askE, hk]))
theorem counts_c {w : World} {sv fv hv bv : Value} {s h : List Int} {b L : List Atm} (hs : SlI w sv s) (hl : SlA w fv L) (hh : SlI w hv h) (hb : SlA w bv b) (hR : okR s L = true) (h0 : (askO h b L).1 = 0) (hT : Tab w) :
    Calls Tryd.prog 45 #[.agg #[sv, fv], .agg #[hv, bv]] w fun e w' => ∃ rv cv, e = .returned (.tuple #[rv, cv]) ∧ SlI w' rv (natI (allR (klS s) L)) ∧ SlI w' cv (natI ((allR (klS s) L).map (cntM b L))) ∧ Grow w w' := by
  refine f45_calls _ _ ?_
  refine ⟨_, rfl, fun w1 hw1 => ⟨_, rfl, fun w3 hw3 => ?_⟩⟩
  have g1 := alloc_grow hw1
  have g3 := alloc_grow hw3
  have g03 := g1.trans g3
  have hB := (RecV.new hw1).grow g3
  have hQ := RecV.new hw3
  have h12 := (okR_out hR).2.1
  refine ⟨[_, _], rfl, hB.all, (repairs_c (hs.grow g03) (hl.gr g03) hR).mono ?_⟩
  rintro e w6 ⟨rv, rfl, hrv, g6⟩
  have g06 := g03.trans g6
  refine ⟨_, rfl, hrv.ln ?_⟩
  rw [natI_len]
  obtain ⟨R, hRR⟩ : ∃ R, R = allR (klS s) L := ⟨_, rfl⟩
  rw [← hRR] at hrv ⊢
  have hRl : R.length ≤ 4096 := by
    have := List.length_filter_le (repB (klS s) L) (List.range (2 ^ L.length))
    rw [List.length_range] at this
    have hpow : 2 ^ L.length ≤ 2 ^ 12 := Nat.pow_le_pow_right (by omega) h12
    have e : R.length = ((List.range (2 ^ L.length)).filter (repB (klS s) L)).length := by rw [hRR]; rfl
    omega
  refine ⟨fun out t w' => ∃ i : Nat, t = i ∧ i ≤ R.length ∧ OwnI w' w6.heap.size out (natI ((R.take i).map (cntM b L))) ∧ Grow w6 w', fun _ t _ => R.length - t.toNat, ⟨0, rfl, by omega, Own.nil _ _ _ _, Grow.refl _⟩, ?_⟩
  rintro - out t w17 ⟨i, rfl, hi, ho, g17⟩
  refine condD (fun hlt => ?_) fun hge => ?_
  · have hil : i < R.length := by omega
    refine (hrv.grow g17).rd rfl (by rw [natI_len]; exact hil) ?_
    rw [natI_get hil]
    intro d
    have gd : Grow w17 (dr w17 d.1) := (Grow.refl w17).dr d.1
    have hm : R[i] < 2 ^ L.length := by
      have : R[i] ∈ allR (klS s) L := by rw [← hRR]; exact List.getElem_mem hil
      exact (mem_allR.1 this).1
    have gD := (g06.trans g17).trans gd
    have hBD := ((hB.grow g6).grow g17).grow gd
    have hQD := ((hQ.grow g6).grow g17).grow gd
    have leaf : ∀ {w25 v}, Grow (dr w17 d.1) w25 → SlA w25 v (ofM L R[i]) → Calls Tryd.prog 25 #[.agg #[hv, bv], v] w25 fun e_v29 w_v28 => ∃ t_v30 : Int, ∃ t_v31 : Int, e_v29 = .returned (Value.tuple #[(Value.int .i64 t_v30), (Value.int .i64 t_v31)]) ∧ ∀ w_v32, w_v32 = w_v28.alloc (.cells #[(Value.int .i64 t_v30)] 3) → PApp Tryd.prog 22 22 out (Value.slice (some ⟨w_v28.heap.size, 0, none⟩) 1 1) w_v32 fun t_v33 w_v34 => inR ((i : Int) + 1) ∧ ((∃ i' : Nat, (i : Int) + 1 = i' ∧ i' ≤ R.length ∧ OwnI w_v34 w6.heap.size t_v33 (natI ((R.take i').map (cntM b L))) ∧ Grow w6 w_v34) ∧ R.length - Int.toNat ((i : Int) + 1) < R.length - Int.toNat (i : Int)) := fun {w25 v} g25 hv => by
      refine (count_c (hh.grow (gD.trans g25)) (hb.gr (gD.trans g25)) hv).mono ?_
      rintro e w28 ⟨rfl, g28⟩
      rw [askO_ofM h0]
      refine ⟨_, _, rfl, fun w32 hw32 => ?_⟩
      have hlen : (natI ((R.take i).map (cntM b L))).length = i := by rw [natI_len, List.length_map, List.length_take]; omega
      have hs17 := g17.size
      have hs28 := ((gd.trans g25).trans g28).size
      refine papp1 el_int hw32 (Own.grow ho ((gd.trans g25).trans g28)) rfl (by omega) (by rw [hlen]; omega) (by omega) fun v' w' ho2 hf2 _ => ⟨by unfold inR; omega, ⟨i + 1, by omega, by omega, ?_, ?_⟩, by omega⟩
      · rw [List.take_succ_eq_append_getElem hil, List.map_append]
        exact ownApp (w := w) ho2
      · exact ((g17.trans ((gd.trans g25).trans g28)).trans (alloc_grow hw32)).fr hf2 fun x hx e => by have := (Own.lt ho e.symm).1; omega
    have call : ∀ {Q : Ending → World → Prop}, (∀ v w25, Grow (dr w17 d.1) w25 → SlA w25 v (ofM L R[i]) → Q (.returned v) w25) → Calls Tryd.prog 73 #[.agg #[sv, fv], .int .i64 (R[i] : Int)] (dr w17 d.1) Q := fun hq => (chosen_c (hl.gr gD) h12 hm (hT.grow gD)).mono (by
      rintro e w25 ⟨v, rfl, hv, g25⟩
      exact hq v w25 g25 hv)
    refine ⟨⟨[_, _], rfl, hQD.all, [_, _], rfl, hBD.all, call fun v w25 g25 hv => ⟨v, rfl, leaf g25 hv⟩⟩, [_, _], rfl, hBD.all, ⟨[_, _], rfl, hQD.all, call fun v w25 g25 hv => ⟨v, rfl, leaf g25 hv⟩⟩, call fun v w25 g25 hv => ⟨v, rfl, [_, _], rfl, (hQD.grow g25).all, leaf g25 hv⟩⟩
  · have hil : i = R.length := by omega
    subst hil
    rw [List.take_length] at ho
    exact ⟨_, _, rfl, hrv.grow g17, Own.slI ho, g06.trans g17⟩
end Go.Proofs.YtmjpnfapjcfejaaDoor
