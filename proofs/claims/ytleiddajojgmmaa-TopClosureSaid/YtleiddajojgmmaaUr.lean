/- Contracts: rules, of rules without variables. No condition. -/
import Derived.Test.YtleiddajojgmmaaMc
import Derived.Test.YtleiddajojgmmaaMv
import Derived.Test.YtleiddajojgmmaaUm
import Derived.Test.YtleiddajojgmmaaVw
import Derived.Test.YtleiddajojgmmaaGru
namespace Go.Proofs.Ytleiddajojgmmaa
open Go Go.RowKit VC
set_option linter.unusedSimpArgs false
set_option linter.unusedVariables false

/-- depend.closure: the function value. -/
theorem closureV_c {w : World} {lv : Value} (h1 : oneV lv) : Calls Try.prog 35 #[lv] w fun e w' => e = .returned (.func (.func 63) #[] #[.pointer (some ⟨w.heap.size, 0, none⟩)]) ∧ Box w' w.heap.size lv ∧ Grow w w' := by
  refine f35_calls _ ?_
  refine ⟨h1, fun w1 hw1 => ?_⟩
  exact ⟨rfl, Box.new hw1, alloc_grow hw1⟩
def zero8 : Value := .agg #[.int .i64 0, .int .i64 0, .int .i64 0, .int .i64 0, .int .i64 0, .int .i64 0, .int .i64 0, .int .i64 0]
theorem api_c {w : World} {c r : Nat} (hc : 1 ≤ c) : Calls Try.prog 71 #[kS c r] w fun e w' => ∃ v, e = .returned (.agg #[.int .i64 (r : Int), v]) ∧ OwnI w' w.heap.size v [(c : Int)] ∧ Grow w w' := by
  refine f71_calls _ ⟨_, rfl, fun w1 hw1 w3 hw3 => ?_⟩
  have g1 := alloc_grow hw1
  have g3 := alloc_grow hw3
  have z1 := alloc_size hw1
  have z3 := alloc_size hw3
  have hF := (RecV.new hw1).grow g3
  have hA := RecV.new hw3
  refine ⟨_, hF.cell (j := 2) rfl, cT (decide_eq_true rfl) ⟨_, hF.cell (j := 0) rfl, _, hF.cell (j := 1) rfl, fun w7 hw7 => ?_⟩⟩
  have g7 := alloc_grow hw7
  have z7 := alloc_size hw7
  have ho := Own.lit (B := w.heap.size) (n := 1) (sz := 1) hw7 (by omega) (by omega) (by simp)
  refine ⟨Own.one ho, RecV.store (cs := [.int .i64 (r : Int), .slice (some ⟨w3.heap.size, 0, none⟩) 1 1]) (hA.grow g7) rfl (by
    intro u hu
    simp at hu
    rcases hu with rfl | rfl
    · rfl
    · exact (Own.one ho).2) fun w8 f8 h8 => ⟨[_, _], rfl, h8.all, _, rfl, ?_, ?_⟩⟩
  · have : OwnI w7 w.heap.size (.slice (some ⟨w3.heap.size, 0, none⟩) 1 1) [(c : Int)] := ho
    exact Own.fr this f8 fun k hk e => by
      have hk : some w3.heap.size = some k := hk
      have := Option.some.inj hk
      omega
  · exact ((g1.trans g3).trans g7).fr f8 fun i hi e => by omega
theorem ground_c {w : World} {u : Value} {c r : Nat} (hu : SlI w u [-(c : Int)]) (hc : 1 ≤ c) (h8 : c < 8) : Calls Try.prog 106 #[zero8, .agg #[.int .i64 (r : Int), u]] w (Ret w (kS c r)) := by
  refine f106_calls _ _ ⟨_, rfl, fun w1 hw1 => ⟨_, rfl, fun w3 hw3 w5 hw5 w6 hw6 => ?_⟩⟩
  have g1 := alloc_grow hw1
  have g3 := alloc_grow hw3
  have g5 := alloc_grow hw5
  have g6 := alloc_grow hw6
  have z1 := alloc_size hw1
  have z3 := alloc_size hw3
  have z5 := alloc_size hw5
  have z6 := alloc_size hw6
  have hA := ((RecV.new hw3).grow g5).grow g6
  have hF := (RecV.new hw5).grow g6
  have hL := RecV.new hw6
  have g06 := ((g1.trans g3).trans g5).trans g6
  have hu6 := hu.grow g06
  refine ⟨_, hA.cell (j := 1) rfl, hu6.ln ⟨fun t w' => (t = 0 ∧ w' = w6 ∨ t = 1 ∧ RecV w' w5.heap.size [.int .i64 (c : Int), .int .i64 0] ∧ Fr (fun i => i = w5.heap.size) w6 w'), fun t _ => 1 - t.toNat, .inl ⟨rfl, rfl⟩, ?_⟩⟩
  rintro - t w15 (⟨rfl, rfl⟩ | ⟨rfl, h15, f15⟩)
  · refine condD (fun _ => ?_) fun hge => absurd hge (by simp)
    refine hu6.rd (i := 0) rfl (by simp) ?_
    simp only [List.getElem_cons_zero]
    refine cT (decide_eq_true (by omega)) ⟨by unfold inR; omega, by omega, ⟨_, hL.cell (j := 0) rfl⟩, hL.free 0, fun w20 hw20 => ⟨by unfold inR; omega, .inr ⟨rfl, ?_, RecV.set_fr hw20⟩, by decide⟩⟩
    have := hL.set hw20
    have e : (0 : Int) - -(c : Int) = (c : Int) := by omega
    rw [e] at this
    exact this
  · refine condD (fun hlt => absurd hlt (by simp)) fun _ => ?_
    have hA15 := hA.fr f15 (by omega)
    have hF15 := hF.fr f15 (by omega)
    refine ⟨_, hA15.cell (j := 0) rfl, by decide, _, h15.cell (j := 0) rfl, by decide, _, h15.cell (j := 1) rfl, ?_⟩
    refine RecV.store (cs := [.int .i64 (r : Int), .int .i64 (c : Int), .int .i64 0]) hF15 rfl (by
      intro y hy
      simp at hy
      rcases hy with rfl | rfl | rfl <;> rfl) fun w26 f26 h26 => ⟨[_, _, _], rfl, h26.all, rfl, ?_⟩
    exact (g06.fr f15 fun i hi e => by omega).fr f26 fun i hi e => by omega
def z8L : List Value := [.int .i64 0, .int .i64 0, .int .i64 0, .int .i64 0, .int .i64 0, .int .i64 0, .int .i64 0, .int .i64 0]
theorem z8_one : ∀ u ∈ z8L, u.oneCell' = true := fun u hu => by
  have : u = .int .i64 0 := by simpa [z8L] using hu
  rw [this]; rfl
theorem keyRu_c {w : World} {u : Value} {c r : Nat} (hu : SlI w u [(c : Int)]) : Calls Try.prog 103 #[.agg #[.int .i64 (r : Int), u]] w (Ret w (kS c r)) := by
  refine f103_calls _ ⟨_, rfl, fun w1 hw1 w3 hw3 d => ?_⟩
  have g1 := alloc_grow hw1
  have g3 := alloc_grow hw3
  have z1 := alloc_size hw1
  have z3 := alloc_size hw3
  obtain ⟨wd, ewd⟩ : ∃ wd, wd = dr w3 d.1 := ⟨_, rfl⟩
  have gd : Grow w3 wd := by rw [ewd]; exact (Grow.refl w3).dr d.1
  rw [← ewd]
  have zd := gd.size
  have hF := ((RecV.new hw1).grow g3).grow gd
  have hO := (RecV.new hw3).grow gd
  have g0d := (g1.trans g3).trans gd
  refine ⟨_, hF.cell (j := 0) rfl, _, hF.cell (j := 1) rfl, (hu.grow g0d).rd (i := 0) rfl (by simp) ?_⟩
  simp only [List.getElem_cons_zero]
  intro w11 hw11
  have g11 := alloc_grow hw11
  have z11 := alloc_size hw11
  refine RecV.store (cs := [.int .i64 (r : Int), .int .i64 (c : Int), .int .i64 0]) (RecV.new hw11) rfl (by
    intro y hy
    simp at hy
    rcases hy with rfl | rfl | rfl <;> rfl) fun w12 f12 h12 => ?_
  have gd12 : Grow wd w12 := g11.fr f12 fun i hi e => by omega
  refine ⟨_, (hF.grow gd12).cell (j := 1) rfl, ((hu.grow g0d).grow gd12).ln (cF (by simp) ⟨[_, _, _], rfl, h12.all, ?_⟩)⟩
  refine RecV.store (cs := [.int .i64 (r : Int), .int .i64 (c : Int), .int .i64 0]) (hO.grow gd12) rfl (by
    intro y hy
    simp at hy
    rcases hy with rfl | rfl | rfl <;> rfl) fun w29 f29 h29 => ⟨[_, _, _], rfl, h29.all, rfl, ?_⟩
  exact (g0d.trans gd12).fr f29 fun i hi e => by omega
theorem fitsRu_c {w : World} {u : Value} {c r r' : Nat} (hu : SlI w u [-(c : Int)]) (hc : 1 ≤ c) (h8 : c < 8) : Calls Try.prog 129 #[zero8, .agg #[.int .i64 (r : Int), u], kS c r'] w (Ret w (.tuple #[zero8, .bool (decide ((r : Int) = (r' : Int)))])) := by
  refine f129_calls _ _ _ ⟨_, rfl, fun w1 hw1 => ⟨_, rfl, fun w3 hw3 => ⟨_, rfl, fun w5 hw5 w7 hw7 => ?_⟩⟩⟩
  have g1 := alloc_grow hw1
  have g3 := alloc_grow hw3
  have g5 := alloc_grow hw5
  have g7 := alloc_grow hw7
  have z1 := alloc_size hw1
  have z3 := alloc_size hw3
  have z5 := alloc_size hw5
  have z7 := alloc_size hw7
  have hV : RecV w7 w.heap.size z8L := (((RecV.new hw1).grow g3).grow g5).grow g7
  have hA := ((RecV.new hw3).grow g5).grow g7
  have hF := (RecV.new hw5).grow g7
  have hZ : RecV w7 w5.heap.size z8L := RecV.new hw7
  have g07 := ((g1.trans g3).trans g5).trans g7
  have hu7 := hu.grow g07
  refine ⟨_, hA.cell (j := 1) rfl, hu7.ln ⟨fun t w' => (t = 0 ∨ t = 1) ∧ w' = w7, fun t _ => 1 - t.toNat, ⟨.inl rfl, rfl⟩, ?_⟩⟩
  rintro - t w16 ⟨ht, rfl⟩
  rcases ht with rfl | rfl
  · refine condD (fun _ => ?_) fun hge => absurd hge (by simp)
    refine hu7.rd (i := 0) rfl (by simp) ?_
    simp only [List.getElem_cons_zero]
    refine ⟨_, hF.cell (j := 1) rfl, _, hF.cell (j := 2) rfl, by decide, (c : Int), ⟨_, rfl, rfl⟩, cT (decide_eq_true (by omega)) ⟨by unfold inR; omega, cF ?_ (cF (decide_eq_false (by omega)) (cF (decide_eq_false (by omega)) ⟨by unfold inR; omega, ⟨.inr rfl, by trivial⟩, by decide⟩))⟩⟩
    rw [decide_eq_true (by omega)]
    rfl
  · refine condD (fun hlt => absurd hlt (by simp)) fun _ => fun d => ?_
    obtain ⟨wd, ewd⟩ : ∃ wd, wd = dr w16 d.1 := ⟨_, rfl⟩
    have gd : Grow w16 wd := by rw [ewd]; exact (Grow.refl w16).dr d.1
    rw [← ewd]
    have hVd := hV.grow gd
    have hAd := hA.grow gd
    have hFd := hF.grow gd
    have hZd := hZ.grow gd
    have g0d := g07.trans gd
    have st : ∀ {K : World → Prop}, (∀ w26, Fr (fun k => k = w5.heap.size) wd w26 → RecV w26 w5.heap.size z8L → K w26) → ∃ cs' : Array Value, (Value.agg z8L.toArray) = Value.agg cs' ∧ cs'.size = 8 ∧ ∃ w2 : World, (storeCells ⟨w5.heap.size, 0, none⟩ cs'.toList).run Try.prog wd = .ok () w2 ∧ K w2 := fun hk => RecV.store (cs := z8L) hZd rfl z8_one hk
    have fin : ∀ {w26 : World}, Fr (fun k => k = w5.heap.size) wd w26 → Grow w w26 := fun hf => g0d.fr hf fun i hi e => by omega
    have cA : ∀ {w26 : World}, Fr (fun k => k = w5.heap.size) wd w26 → w26.cell? (Addr.add ⟨w1.heap.size, 0, none⟩ 0) = some (.int .i64 (r : Int)) := fun hf => (hAd.fr hf (by omega)).cell (j := 0) rfl
    have cF' : ∀ {w26 : World}, Fr (fun k => k = w5.heap.size) wd w26 → w26.cell? (Addr.add ⟨w3.heap.size, 0, none⟩ 0) = some (.int .i64 (r' : Int)) := fun hf => (hFd.fr hf (by omega)).cell (j := 0) rfl
    have cA0 := hAd.cell (j := 0) (u := .int .i64 (r : Int)) rfl
    have cF0 := hFd.cell (j := 0) (u := .int .i64 (r' : Int)) rfl
    refine ⟨z8L, rfl, hVd.all, ⟨_, cA0, ⟨_, cF0, st fun w26 f h => ⟨z8L, rfl, h.all, rfl, fin f⟩⟩, st fun w26 f h => ⟨_, cF' f, z8L, rfl, h.all, rfl, fin f⟩⟩, ⟨_, cF0, ⟨_, cA0, st fun w26 f h => ⟨z8L, rfl, h.all, rfl, fin f⟩⟩, st fun w26 f h => ⟨_, cA f, z8L, rfl, h.all, rfl, fin f⟩⟩, st fun w26 f h => ?_⟩
    first
      | exact ⟨_, cA f, _, cF' f, z8L, rfl, h.all, rfl, fin f⟩
      | exact ⟨⟨_, cA f, _, cF' f, z8L, rfl, h.all, rfl, fin f⟩, _, cF' f, _, cA f, z8L, rfl, h.all, rfl, fin f⟩
/-! ## instances: the recursion -/
def repLit (c : Nat) (w : World) (cs : List Value) (b : Nat) : Prop := ∃ u, cs = [.bool false, .int .i64 (b : Int), u] ∧ SlI w u [-(c : Int)]
theorem repLit_mono (c : Nat) : Mono (repLit c) := fun w w' cs x hg ⟨v, h1, h2⟩ => ⟨v, h1, h2.grow hg⟩
def repKey (c : Nat) (w : World) (cs : List Value) (b : Nat) : Prop := cs = [.int .i64 (b : Int), .int .i64 (c : Int), .int .i64 0]
theorem repKey_mono (c : Nat) : Mono (repKey c) := fun w w' cs x hg h => h
theorem map_rel : Try.prog.underlying 173 = some (.map 3 150) ∧ Try.prog.underlying 3 = some (.int .i64) ∧ Try.prog.info? 150 = some Try.t150 ∧ Try.t150.zero = some (.slice none 0 0) := ⟨by kernel_rfl, by kernel_rfl, by kernel_rfl, by kernel_rfl⟩
/-- What the recursion reads: the rule's body, the callback, itself, and the facts by relation. -/
structure TryE (c : Nat) (B S : List Nat) (w : World) (q2 q3 q4 q5 q6 : Addr) (bv fv : Value) (bm : Nat) (kv : List (Int × Value)) : Prop where
  body : w.cell? (q2.add 2) = some bv
  sl : SlX 3 (repLit c) w bv B
  f : w.cell? q4 = some fv
  me : w.cell? q5 = some (.func (.func 128) #[] #[.pointer (some q2), .pointer (some q3), .pointer (some q4), .pointer (some q5), .pointer (some q6)])
  rel : w.cell? q6 = some (.map (some bm))
  map : MapI w bm kv
  has : ∀ b ∈ B, (b ∈ S → ∃ sv, getM kv (b : Int) = some sv ∧ SlX 3 (repKey c) w sv [b]) ∧ (b ∉ S → getM kv (b : Int) = none)
theorem TryE.grow {c : Nat} {B S : List Nat} {w w' : World} {q2 q3 q4 q5 q6 : Addr} {bv fv : Value} {bm : Nat} {kv : List (Int × Value)} (h : TryE c B S w q2 q3 q4 q5 q6 bv fv bm kv) (g : Grow w w') : TryE c B S w' q2 q3 q4 q5 q6 bv fv bm kv :=
  ⟨g.cell h.body, h.sl.grow (repLit_mono c) g, g.cell h.f, g.cell h.me, g.cell h.rel, h.map.grow g, fun b hb => ⟨fun hs => by
    obtain ⟨sv, h1, h2⟩ := (h.has b hb).1 hs
    exact ⟨sv, h1, h2.grow (repKey_mono c) g⟩, (h.has b hb).2⟩⟩
theorem tryRu_c {c : Nat} (hc : 1 ≤ c) (h8 : c < 8) {B S : List Nat} {q2 q3 q4 q5 q6 : Addr} {bv : Value} {gf : FuncId} {fst cap : Array Value} (hg : callOK gf = true) {bm : Nat} {kv : List (Int × Value)} : ∀ (n k : Nat), k + n = B.length → (∀ b ∈ B.take k, b ∈ S) → ∀ {w : World} {K : Ending → World → Prop}, TryE c B S w q2 q3 q4 q5 q6 bv (.func (.func gf) fst cap) bm kv →
    ((∀ b ∈ B, b ∈ S) → ∀ w', Grow w w' → Calls Try.prog gf (fst ++ #[zero8] ++ cap) w' fun e w'' => e = .returned (.tuple #[]) ∧ K (.returned (.tuple #[])) w'') →
    ((∃ b ∈ B, b ∉ S) → ∀ w', Grow w w' → K (.returned (.tuple #[])) w') →
    Calls Try.prog 128 #[.int .i64 (k : Int), zero8, .pointer (some q2), .pointer (some q3), .pointer (some q4), .pointer (some q5), .pointer (some q6)] w K := by
  intro n
  induction n with
  | zero =>
    intro k hk hpre w K E hyes hno
    have hkB : k = B.length := by omega
    subst hkB
    rw [List.take_length] at hpre
    refine f128_calls _ _ _ _ _ _ _ ⟨_, rfl, fun w1 hw1 => ?_⟩
    have g1 := alloc_grow hw1
    have hV : RecV w1 w.heap.size z8L := RecV.new hw1
    have E1 := E.grow g1
    have hle := SlX.len_le E1.sl
    refine ⟨_, E1.body, SlX.ln E1.sl (cT (decide_eq_true rfl) ⟨_, E1.body, SlX.ln E1.sl ⟨fun t w' => ∃ j : Nat, t = j ∧ j ≤ B.length ∧ Grow w1 w', fun t _ => B.length - t.toNat, ⟨0, rfl, by omega, Grow.refl _⟩, ?_⟩⟩)⟩
    rintro - t w15 ⟨j, rfl, hj, g15⟩
    have E15 := E1.grow g15
    refine condD (fun hlt => ?_) fun hge => ?_
    · have hjl : j < B.length := by omega
      refine SlX.rd E15.sl rfl hjl ?_
      rintro cs - ⟨u, rfl, hu⟩ w20 hw20
      refine RecV.init (cs := [.bool false, .int .i64 (B[j] : Int), u]) hw20 rfl (by
        intro y hy
        simp at hy
        rcases hy with rfl | rfl | rfl
        · rfl
        · rfl
        · exact hu.one.2) fun w21 g21 s21 h21 => fun d => ?_
      have gd : Grow w21 (dr w21 d.1) := (Grow.refl w21).dr d.1
      exact ⟨_, (h21.grow gd).cell (j := 0) rfl, cF rfl ⟨by unfold inR; omega, ⟨j + 1, by omega, by omega, (g15.trans g21).trans gd⟩, by first | omega | (dsimp only; omega)⟩⟩
    · exact ⟨_, E15.f, z8L, rfl, (hV.grow g15).all, gf, fst, cap, rfl, hg, hyes hpre w15 (g1.trans g15)⟩
  | succ n ih =>
    intro k hk hpre w K E hyes hno
    have hkB : k < B.length := by omega
    refine f128_calls _ _ _ _ _ _ _ ⟨_, rfl, fun w1 hw1 => ?_⟩
    have g1 := alloc_grow hw1
    have hV : RecV w1 w.heap.size z8L := RecV.new hw1
    have E1 := E.grow g1
    have hle := SlX.len_le E1.sl
    refine ⟨_, E1.body, SlX.ln E1.sl (cF (decide_eq_false (by omega)) ⟨_, E1.body, SlX.rd E1.sl rfl hkB ?_⟩)⟩
    rintro cs - ⟨u, rfl, hu⟩ w45 hw45
    refine RecV.init (cs := [.bool false, .int .i64 (B[k] : Int), u]) hw45 rfl (by
      intro y hy
      simp at hy
      rcases hy with rfl | rfl | rfl
      · rfl
      · rfl
      · exact hu.one.2) fun w46 g46 s46 h46 => ?_
    have E46 := E1.grow g46
    have g046 := g1.trans g46
    have hmem : B[k] ∈ B := List.getElem_mem hkB
    have aw1 : ∀ (j : Nat), Addr.add (Addr.add ⟨w1.heap.size, 0, none⟩ 1) j = Addr.add ⟨w1.heap.size, 0, none⟩ (1 + j) := fun j => by rw [add_add]
    refine ⟨_, h46.cell (j := 0) rfl, cF rfl ⟨_, E46.rel, (B[k] : Int), ?_, _, _, MapI.get map_rel.1 map_rel.2.1 map_rel.2.2.1 map_rel.2.2.2 E46.map _ false, ?_⟩⟩
    · rw [aw1]; exact h46.cell (j := 1) rfl
    by_cases hS : B[k] ∈ S
    · obtain ⟨sv, hget, hsv⟩ := (E46.has _ hmem).1 hS
      rw [hget]
      refine SlX.ln hsv ⟨fun t w' => t = 0 ∧ w' = w46 ∨ t = 1 ∧ K (.returned (.tuple #[])) w', fun t _ => 1 - t.toNat, .inl ⟨rfl, rfl⟩, ?_⟩
      rintro - t w67 (⟨rfl, rfl⟩ | ⟨rfl, hK⟩)
      · refine condD (fun _ => ?_) fun hge => absurd hge (by simp)
        refine SlX.rd hsv (i := 0) rfl (by simp) ?_
        rintro cs - rfl w72 hw72
        refine RecV.init (cs := [.int .i64 ((B[k] : Nat) : Int), .int .i64 (c : Int), .int .i64 0]) hw72 rfl (by
          intro y hy
          simp at hy
          rcases hy with rfl | rfl | rfl <;> rfl) fun w73 g73 s73 h73 => ?_
        have g173 := g46.trans g73
        refine ⟨z8L, rfl, (hV.grow g173).all, [.int .i64 (B[k] : Int), u], rfl, fun j y hj => ?_, [_, _, _], rfl, h73.all, (fitsRu_c (r := B[k]) (r' := B[k]) ((hu.grow g46).grow g73) hc h8).mono ?_⟩
        · rw [aw1]
          exact (h46.grow g73).cell (j := 1 + j) (by rw [Nat.add_comm]; exact hj)
        rintro e w78 ⟨rfl, g78⟩
        refine ⟨_, _, rfl, fun w82 hw82 => RecV.init (cs := z8L) hw82 rfl z8_one fun w83 g83 s83 h83 => ?_⟩
        have g083 := ((g046.trans g73).trans g78).trans g83
        have E83 := E.grow g083
        refine cT (decide_eq_true rfl) ⟨_, E83.me, by unfold inR; omega, z8L, rfl, h83.all, _, _, _, rfl, by kernel_rfl, ?_⟩
        have := ih (k + 1) (by omega) (by
          intro b hb
          rw [List.take_succ_eq_append_getElem hkB] at hb
          rcases List.mem_append.1 hb with hb | hb
          · exact hpre b hb
          · rw [List.mem_singleton.1 hb]; exact hS) (w := w83) (K := fun e w' => e = .returned (.tuple #[]) ∧ inR (0 + 1) ∧ ((((0 : Int) + 1 = 0 ∧ w' = w67) ∨ ((0 : Int) + 1 = 1 ∧ K (.returned (.tuple #[])) w')) ∧ 1 - Int.toNat ((0 : Int) + 1) < 1 - Int.toNat (0 : Int))) E83 (fun hall w' gg => (hyes hall w' (g083.trans gg)).mono (by
            rintro e w'' ⟨rfl, hk⟩
            exact ⟨rfl, rfl, by unfold inR; omega, .inr ⟨rfl, hk⟩, by decide⟩)) fun hex w' gg => ⟨rfl, by unfold inR; omega, .inr ⟨rfl, hno hex w' (g083.trans gg)⟩, by decide⟩
        exact this
      · exact condD (fun hlt => absurd hlt (by simp)) fun _ => hK
    · rw [(E46.has _ hmem).2 hS]
      refine ⟨none, 0, 0, rfl, fun t w' => t = 0 ∧ w' = w46, fun t _ => 0, ⟨rfl, rfl⟩, ?_⟩
      rintro - t w67 ⟨rfl, rfl⟩
      exact condD (fun hlt => absurd hlt (by simp)) fun _ => hno ⟨_, hmem, hS⟩ _ g046
def itLeftF (w : World) (b r : Nat) : Nat := match w.heap[b]?, w.heap[r]? with
  | some (.map es _), some (.mapIter _ _ seen _) => (es.toList.filter fun e => !seen.contains e.born).length
  | _, _ => 0
theorem itLeftF_eq {c : Nat} {w : World} {b r : Nat} {S left : List Nat} (h : ItF c w b r S left) : itLeftF w b r = left.length := by
  obtain ⟨es, clock, since, seen, c0, h1, h2, h3, h4, h5, h6, h7, rfl⟩ := h.ex
  unfold itLeftF
  rw [h1, h5]
  simp
theorem el_fk : ElT Try.prog 150 119 3 24 (.agg #[.int .i64 0, .int .i64 0, .int .i64 0]) := ⟨by kernel_rfl, ⟨Try.t119, by kernel_rfl, by kernel_rfl, by kernel_rfl, by kernel_rfl⟩, rfl⟩
def kL3 (c p : Nat) : List Value := [.int .i64 (p : Int), .int .i64 (c : Int), .int .i64 0]
theorem kL3_one (c p : Nat) : ∀ u ∈ kL3 c p, u.oneCell' = true := by
  intro y hy
  simp [kL3] at hy
  rcases hy with rfl | rfl | rfl <;> rfl
abbrev OwnK (c : Nat) (w : World) (B : Nat) (v : Value) (p : Nat) : Prop := Own w B 119 3 v 1 (kL3 c p)
theorem OwnK.sl {c : Nat} {w : World} {B : Nat} {v : Value} {p : Nat} (h : OwnK c w B v p) : SlX 3 (repKey c) w v [p] := by
  have := SlX.of_cells (k := 3) (rep := repKey c) (w := w) (v := v) (ps := [(kL3 c p, p)]) (fun q hq => by
    obtain rfl : q = (kL3 c p, p) := by simpa using hq
    exact ⟨rfl, rfl⟩) (by simpa using Own.slC h)
  simpa using this
/-- What byRel holds, while the Rels of left are still to come. -/
structure RelI (c : Nat) (S left : List Nat) (w : World) (B bm : Nat) (kv : List (Int × Value)) : Prop where
  map : MapI w bm kv
  yes : ∀ b, b ∈ S → b ∉ left → ∃ sv, getM kv (b : Int) = some sv ∧ OwnK c w B sv b
  no : ∀ b : Nat, b ∉ S ∨ b ∈ left → getM kv (b : Int) = none
theorem RelI.fr {c : Nat} {S left : List Nat} {w w' : World} {B bm : Nat} {kv : List (Int × Value)} {T : Nat → Prop} (h : RelI c S left w B bm kv) (hf : Fr T w w') (hb : ¬ T bm) (hB : ∀ i, B ≤ i → ¬ T i) : RelI c S left w' B bm kv :=
  ⟨h.map.fr hf hb, fun b h1 h2 => by
    obtain ⟨sv, a1, a2⟩ := h.yes b h1 h2
    exact ⟨sv, a1, Own.fr a2 hf fun k hk => hB k (Own.lt a2 hk).1⟩, h.no⟩
theorem RelI.put {c : Nat} {S left left' : List Nat} {w w' : World} {B bm p : Nat} {kv : List (Int × Value)} {sv : Value} (h : RelI c S left w B bm kv) (hp : left.Perm (p :: left')) (hpS : p ∈ S) (hn : p ∉ left') (hsv : OwnK c w B sv p) (hm : MapI w' bm (updM kv (p : Int) sv)) (hf : Fr (fun q => q = bm) w w') (hbm : bm < B) : RelI c S left' w' B bm (updM kv (p : Int) sv) := by
  refine ⟨hm, fun b h1 h2 => ?_, fun b h1 => ?_⟩
  · rw [getM_upd]
    by_cases e : b = p
    · subst e
      exact ⟨sv, by rw [if_pos rfl], Own.fr hsv hf fun k hk e => by have := (Own.lt hsv hk).1; omega⟩
    · rw [if_neg (by omega)]
      obtain ⟨sv', a1, a2⟩ := h.yes b h1 fun hb => by
        rcases List.mem_cons.1 (hp.mem_iff.1 hb) with e2 | e2
        · exact e e2
        · exact h2 e2
      exact ⟨sv', a1, Own.fr a2 hf fun k hk e => by have := (Own.lt a2 hk).1; omega⟩
  · rw [getM_upd]
    have e : b ≠ p := fun e => by
      subst e
      rcases h1 with h1 | h1
      · exact h1 hpS
      · exact hn h1
    rw [if_neg (by omega)]
    exact h.no b (h1.imp id fun h2 => hp.mem_iff.2 (List.mem_cons_of_mem _ h2))
theorem instances_c {c : Nat} (hc : 1 ≤ c) {B S : List Nat} {w : World} {rh : Int} {uh bv nv : Value} {mb : Nat} {gf : FuncId} {fst cap : Array Value} (hg : callOK gf = true) (hS : MapF c w mb S) (hnd : S.Nodup) (hsl : SlX 3 (repLit c) w bv B) (hnv : oneV nv) (huh : oneV uh) {K : Ending → World → Prop}
    (hyes : (∀ b ∈ B, b ∈ S) → ∀ w', Grow w w' → Calls Try.prog gf (fst ++ #[zero8] ++ cap) w' fun e w'' => e = .returned (.tuple #[]) ∧ K (.returned (.tuple #[])) w'')
    (hno : (∃ b ∈ B, b ∉ S) → ∀ w', Grow w w' → K (.returned (.tuple #[])) w') :
    Calls Try.prog 104 #[.agg #[.int .i64 rh, uh, bv], .map (some mb), nv, .func (.func gf) fst cap] w K := by
  refine f104_calls _ _ _ _ ⟨_, rfl, fun w1 hw1 => ⟨hnv, fun w3 hw3 => ⟨⟨rfl, rfl⟩, fun w4 hw4 => ?_⟩⟩⟩
  have g1 := alloc_grow hw1
  have g3 := alloc_grow hw3
  have g4 := alloc_grow hw4
  have z1 := alloc_size hw1
  have z3 := alloc_size hw3
  have z4 := alloc_size hw4
  refine MapI.make _ _ fun w5 hw5 hm5 g5 z5 => fun w7 hw7 => ?_
  have g7 := alloc_grow hw7
  have z7 := alloc_size hw7
  have bx7 := Box.new hw7
  refine ⟨⟨rfl, rfl⟩, ⟨_, bx7.cell⟩, bx7.free, fun w8 hw8 => ?_⟩
  have bx8 := bx7.set hw8
  have f8 := set_fr hw8
  have z8 := f8.size
  have g08 : Grow w w8 := ((((g1.trans g3).trans g4).trans g5).trans g7).fr f8 fun i hi e => by have e : i = w5.heap.size := e; omega
  have lt5 : mb < w.heap.size := hS.lt
  refine MapF.range map_und.1 (hS.grow g08) fun w9 hit g9 z9 => ?_
  have g09 := g08.trans g9
  obtain ⟨BM, eBM⟩ : ∃ BM, BM = w4.heap.size := ⟨_, rfl⟩
  obtain ⟨BR, eBR⟩ : ∃ BR, BR = w5.heap.size := ⟨_, rfl⟩
  obtain ⟨IT, eIT⟩ : ∃ IT, IT = w8.heap.size := ⟨_, rfl⟩
  have hR9 : RecV w9 w.heap.size [.int .i64 rh, uh, bv] := (((((RecV.new hw1).grow g3).grow g4).grow g5).grow g7 |>.fr f8 (fun e => by have e : w.heap.size = w5.heap.size := e; omega)).grow g9
  have hf9 : Box w9 w3.heap.size (.func (.func gf) fst cap) := ((((Box.new hw4).grow g5).grow g7).fr f8 (fun e => by have e : w3.heap.size = w5.heap.size := e; omega)).grow g9
  have hm9 : MapI w9 BM [] := by rw [eBM]; exact ((hm5.grow g7).fr f8 (fun e => by have e : w4.heap.size = w5.heap.size := e; omega)).grow g9
  have bx9 : Box w9 BR (.map (some BM)) := by rw [eBR, eBM]; exact bx8.grow g9
  have sl9 := hsl.grow (repLit_mono c) g09
  rw [← eIT] at hit ⊢
  rw [← eBR]
  refine ⟨fun w' => ∃ (left : List Nat) (kv : List (Int × Value)), ItF c w' mb IT S left ∧ RelI c S left w' w9.heap.size BM kv ∧ left.Nodup ∧ (∀ b ∈ left, b ∈ S) ∧ Fr (fun i => i = IT ∨ i = BM) w9 w', fun w' => itLeftF w' mb IT, ⟨S, [], hit, ⟨hm9, fun b h1 h2 => absurd h1 h2, fun b _ => rfl⟩, hnd, fun b hb => hb, Fr.refl _ _⟩, ?_⟩
  rintro - w14 ⟨left, kv, hI, hRel, hln, hls, f14⟩
  have z14 := f14.size
  rcases hI.next (P := Try.prog) (by omega : IT ≠ mb) 0 with ⟨rfl, hrun⟩ | ⟨p, left', w18, hperm, hrun, hI18, f18, hent⟩
  · refine .inl ⟨_, hrun, fun w19 hw19 => ⟨⟨rfl, rfl⟩, ?_⟩⟩
    have g19 := alloc_grow hw19
    have z19 := alloc_size hw19
    have bx19 := Box.new hw19
    refine ⟨⟨_, bx19.cell⟩, bx19.free, fun w20 hw20 => ?_⟩
    have bx20 := bx19.set hw20
    have f20 := set_fr hw20
    have g1420 : Grow w14 w20 := g19.fr f20 fun i hi e => by have e : i = w14.heap.size := e; omega
    have g020 : Grow w w20 := (g09.fr f14 fun i hi e => by omega).trans g1420
    have fT : Fr (fun i => i = IT ∨ i = BM) w9 w20 := f14.trans (Fr.of_grow g1420)
    have E : TryE c B S w20 ⟨w.heap.size, 0, none⟩ ⟨w1.heap.size, 0, none⟩ ⟨w3.heap.size, 0, none⟩ ⟨w14.heap.size, 0, none⟩ ⟨BR, 0, none⟩ bv (.func (.func gf) fst cap) BM kv := by
      refine ⟨(hR9.fr fT (by omega)).cell (j := 2) rfl, hsl.grow (repLit_mono c) g020, (hf9.fr fT (by omega)).cell, ?_, (bx9.fr fT (by omega)).cell, (hRel.map).grow g1420, fun b hb => ⟨fun hs => ?_, fun hs => hRel.no b (.inl hs)⟩⟩
      · rw [eBR, ← eBR]
        exact bx20.cell
      · obtain ⟨sv, a1, a2⟩ := hRel.yes b hs (by simp)
        exact ⟨sv, a1, (OwnK.sl a2).grow (repKey_mono c) g1420⟩
    refine ⟨_, bx20.cell, _, _, _, rfl, by kernel_rfl, ?_⟩
    have := tryRu_c hc hS.c8 hg (q2 := ⟨w.heap.size, 0, none⟩) (q3 := ⟨w1.heap.size, 0, none⟩) (q4 := ⟨w3.heap.size, 0, none⟩) (q5 := ⟨w14.heap.size, 0, none⟩) (q6 := ⟨BR, 0, none⟩) B.length 0 (by omega) (fun b hb => by simp at hb) (K := fun e w' => e = .returned (.tuple #[]) ∧ K (.returned (.tuple #[])) w') E (fun hall w' gg => (hyes hall w' (g020.trans gg)).mono (by
      rintro e w'' ⟨rfl, hk⟩
      exact ⟨rfl, rfl, hk⟩)) fun hex w' gg => ⟨rfl, hno hex w' (g020.trans gg)⟩
    exact this
  · refine .inr ⟨_, _, _, hrun, _, _, _, hent, fun w30 hw30 => ?_⟩
    have hpS : p ∈ S := hls p (hperm.mem_iff.2 (List.mem_cons_self ..))
    have hln' : (p :: left').Nodup := hperm.nodup_iff.1 hln
    have hpn : p ∉ left' := (List.nodup_cons.1 hln').1
    have hget : getM kv (p : Int) = none := hRel.no p (.inr (hperm.mem_iff.2 (List.mem_cons_self ..)))
    have z18 := f18.size
    refine RecV.init (cs := kL3 c p) hw30 rfl (kL3_one c p) fun w31 g31 z31 h31 => fun d => ?_
    obtain ⟨wd, ewd⟩ : ∃ wd, wd = dr w31 d.1 := ⟨_, rfl⟩
    have gd : Grow w31 wd := by rw [ewd]; exact (Grow.refl w31).dr d.1
    rw [← ewd]
    have g18d := g31.trans gd
    have gdd : Grow wd wd := Grow.refl wd
    have zd := g18d.size
    have f9d : Fr (fun i => i = IT ∨ i = BM) w9 wd := (f14.trans (f18.mono fun i _ e => .inl e)).trans (Fr.of_grow g18d)
    have bxd : Box wd BR (.map (some BM)) := bx9.fr f9d (by omega)
    have hXd : RecV wd w18.heap.size (kL3 c p) := h31.grow gd
    have hReld : RelI c S left wd w9.heap.size BM kv := (hRel.fr (f18.mono fun i _ e => e) (by omega) fun i hi => by omega).fr (Fr.of_grow (S := fun _ => False) g18d) id fun _ _ => id
    have hItd := hI18.grow g18d
    have cM : ∀ {E : World}, Grow wd E → E.cell? ⟨BR, 0, none⟩ = some (.map (some BM)) := fun g => g.cell bxd.cell
    have c0 : ∀ {E : World}, Grow wd E → E.cell? (Addr.add ⟨w18.heap.size, 0, none⟩ 0) = some (.int .i64 (p : Int)) := fun g => (hXd.grow g).cell (j := 0) rfl
    have LK : ∀ {E : World} {K : Value → World → Prop}, Grow wd E → K (.slice none 0 0) E → ∃ t : Value, ∃ w' : World, (Instr.lookup 173 (.map (some BM)) (.int .i64 (p : Int)) false).run Try.prog E = .ok t w' ∧ Grow E w' ∧ K t w' := fun {E K} g hk => by
      have := MapI.get map_rel.1 map_rel.2.1 map_rel.2.2.1 map_rel.2.2.2 (hReld.map.grow g) (p : Int) false
      rw [hget] at this
      exact ⟨_, _, this, Grow.refl _, hk⟩
    have BS : ∀ {E : World} {K : Value → World → Prop}, Grow wd E → (∀ x w', Grow wd w' → SlC w' x 1 (kL3 c p) → K x w') → ∃ v : Value, ∃ w' : World, (Instr.buildSlice 150 1 #[(0, .agg (kL3 c p).toArray)]).run Try.prog E = .ok v w' ∧ Grow E w' ∧ K v w' := fun {E K} g hk => bs1 el_fk (by omega) (by omega) (cs := (kL3 c p).toArray) rfl E fun w' hw' => ⟨alloc_grow hw', hk _ w' (g.trans (alloc_grow hw')) (Own.lit (B := E.heap.size) (n := 1) (sz := 3) hw' (Nat.le_refl _) (by omega) (by simp [kL3])).slC⟩
    have PA : ∀ {E : World} {x : Value} {K : Value → World → Prop}, Grow wd E → SlC E x 1 (kL3 c p) → (∀ v' w', Grow wd w' → OwnK c w' w9.heap.size v' p → K v' w') → PApp Try.prog 150 150 (.slice none 0 0) x E K := fun {E x K} g hx hk => by
      refine papp el_fk (by omega) (Own.nil E w9.heap.size 119 3) hx rfl (kL3_one c p) (by have := g.size; omega) (by omega) (by omega) fun v' w' ho hf _ => hk v' w' ?_ (by simpa using ho)
      exact g.fr hf fun i hi e => by cases e
    have MU : ∀ {E : World} {v' : Value}, Grow wd E → OwnK c E w9.heap.size v' p → ∃ w' : World, (Instr.mapUpdate 173 (.map (some BM)) (.int .i64 (p : Int)) v').run Try.prog E = .ok () w' ∧ ((∃ (left : List Nat) (kv : List (Int × Value)), ItF c w' mb IT S left ∧ RelI c S left w' w9.heap.size BM kv ∧ left.Nodup ∧ (∀ b ∈ left, b ∈ S) ∧ Fr (fun i => i = IT ∨ i = BM) w9 w') ∧ itLeftF w' mb IT < itLeftF w14 mb IT) := fun {E v'} g ho => by
      have hRelE : RelI c S left E w9.heap.size BM kv := hReld.fr (Fr.of_grow (S := fun _ => False) g) id fun _ _ => id
      obtain ⟨w', hr, hm', hf'⟩ := MapI.set map_rel.1 map_rel.2.1 hRelE.map (p : Int) v'
      have hIt' : ItF c w' mb IT S left' := (hItd.grow g).fr hf' (by omega) (by omega)
      refine ⟨w', hr, ⟨left', _, hIt', hRelE.put hperm hpS hpn ho hm' hf' (by omega), (List.nodup_cons.1 hln').2, fun b hb => hls b (hperm.mem_iff.2 (List.mem_cons_of_mem _ hb)), (f9d.trans (Fr.of_grow g)).trans (hf'.mono fun i _ e => .inr e)⟩, ?_⟩
      rw [itLeftF_eq hIt', itLeftF_eq hI, hperm.length_eq, List.length_cons]
      omega
    refine ⟨_, cM gdd, _, c0 gdd, kL3 c p, rfl, hXd.all, ?_⟩
    repeat' first
      | with_reducible refine And.intro ?_ ?_
      | with_reducible refine ⟨_, cM (by assumption), ?_⟩
      | with_reducible refine ⟨_, c0 (by assumption), ?_⟩
      | with_reducible refine PA (by assumption) (by assumption) fun _ _ _ _ => ?_
      | with_reducible refine LK (by assumption) ?_
      | with_reducible refine BS (by assumption) fun _ _ _ _ => ?_
      | with_reducible exact MU (by assumption) (by assumption)
/-! ## given -/
/-- Facts of one number each. -/
def factsN (c : Nat) (l : List Nat) : List (Int × List Int) := l.map fun r : Nat => ((r : Int), [(c : Int)])
def addS (S : List Nat) (k : Nat) : List Nat := if k ∈ S then S else S ++ [k]
theorem mem_addS {S : List Nat} {k b : Nat} : b ∈ addS S k ↔ b ∈ S ∨ b = k := by
  unfold addS
  split
  · rename_i h
    constructor
    · exact .inl
    · rintro (h1 | rfl)
      · exact h1
      · exact h
  · rw [List.mem_append, List.mem_singleton]
theorem addS_nodup {S : List Nat} (h : S.Nodup) (k : Nat) : (addS S k).Nodup := by
  unfold addS
  split
  · exact h
  · rename_i hk
    refine List.nodup_append.2 ⟨h, by simp, fun a ha b hb e => ?_⟩
    have hb : b = k := by simpa using hb
    subst e hb
    exact hk ha
theorem given_c {c : Nat} (h8 : c < 8) {w : World} {fv : Value} {l : List Nat} (hl : SlA w fv (factsN c l)) (hr : ∀ r ∈ l, r < 8) : Calls Try.prog 69 #[fv] w fun e w' => ∃ b S, e = .returned (.map (some b)) ∧ MapF c w' b S ∧ S.Nodup ∧ (∀ r, r ∈ S ↔ r ∈ l) ∧ w.heap.size ≤ b ∧ Grow w w' := by
  refine f69_calls _ ?_
  refine MapF.make h8 _ _ fun w1 hw1 hm1 g1 z1 => ?_
  have hle := SlX.len_le hl
  have hll : (factsN c l).length = l.length := by simp [factsN]
  obtain ⟨b, eb⟩ : ∃ b, b = w.heap.size := ⟨_, rfl⟩
  rw [← eb] at hm1 ⊢
  refine SlX.ln (hl.gr g1) ⟨fun t w' => ∃ (k : Nat) (S : List Nat), t = k ∧ k ≤ l.length ∧ MapF c w' b S ∧ S.Nodup ∧ (∀ r, r ∈ S ↔ r ∈ l.take k) ∧ Fr (fun i => i = b) w1 w', fun t _ => l.length - t.toNat, ⟨0, [], rfl, by omega, hm1, by simp, fun r => by simp, Fr.refl _ _⟩, ?_⟩
  rintro - t w10 ⟨k, S, rfl, hk, hm, hnd, hS, f10⟩
  have g010 : Grow w w10 := g1.fr f10 fun i hi e => by omega
  refine condD (fun hlt => ?_) fun hge => ?_
  · have hkl : k < l.length := by omega
    have hkf : k < (factsN c l).length := by omega
    have ek : (factsN c l)[k] = (((l[k] : Nat) : Int), [(c : Int)]) := by simp [factsN]
    refine SlX.loc (hl.gr g010) rfl hkf rfl fun w16 u g16 s16 hu c0 c1 => ?_
    rw [ek] at hu c0
    have hk8 : l[k] < 8 := hr _ (List.getElem_mem hkl)
    refine ⟨[.int .i64 ((l[k] : Nat) : Int), u], rfl, fun j y hj => ?_, (keyRu_c hu).mono ?_⟩
    · match j, hj with
      | 0, hj => cases hj; exact c0
      | 1, hj => cases hj; exact c1
    rintro e w19 ⟨rfl, g19⟩
    have g1019 := g16.trans g19
    obtain ⟨w22, hrun, hm22, f22⟩ := (hm.grow g1019).put hk8
    refine ⟨_, rfl, w22, hrun, by unfold inR; omega, ⟨k + 1, _, by omega, by omega, hm22, addS_nodup hnd _, fun r => ?_, (f10.trans (Fr.of_grow g1019)).trans f22⟩, by first | omega | (dsimp only; omega)⟩
    have := mem_addS (S := S) (k := l[k]) (b := r)
    unfold addS at this
    rw [this, hS, List.take_succ_eq_append_getElem hkl, List.mem_append, List.mem_singleton]
  · have hkn : k = l.length := by omega
    subst hkn
    rw [List.take_length] at hS
    exact ⟨b, S, rfl, hm, hnd, hS, by omega, g010⟩
/-! ## consequences: the callback -/
abbrev OwnKs (c : Nat) (w : World) (B : Nat) (v : Value) (l : List Nat) : Prop := Own w B 119 3 v l.length (l.flatMap (kL3 c))
theorem cons1_c {c : Nat} (hc : 1 ≤ c) {w : World} {q1 : Addr} {F BF mb rh : Nat} {uh fv : Value} {S fs : List Nat} {aq2 : Addr} (hq1 : ∀ (j : Nat) (y : Value), [.int .i64 (rh : Int), uh][j]? = some y → w.cell? (Addr.add (Addr.add q1 0) j) = some y) (huh : SlI w uh [-(c : Int)]) (hq2 : w.cell? aq2 = some (.map (some mb))) (hS : MapF c w mb S) (hr : rh < 8) (hF : Box w F fv) (ho : OwnKs c w BF fv fs) (hFB : F < BF) (hBw : BF ≤ w.heap.size) (hlen : fs.length ≤ 1000) :
    Calls Try.prog 105 #[zero8, .pointer (some q1), .pointer (some aq2), .pointer (some ⟨F, 0, none⟩)] w fun e w' => e = .returned (.tuple #[]) ∧ ((rh ∈ S ∧ Grow w w') ∨ (rh ∉ S ∧ ∃ fv', Box w' F fv' ∧ OwnKs c w' BF fv' (fs ++ [rh]) ∧ Fr (fun i => i = F ∨ BF ≤ i ∧ some i = fv.ownBlock) w w')) := by
  refine f105_calls _ _ _ _ ⟨_, rfl, fun w1 hw1 => ?_⟩
  have g1 := alloc_grow hw1
  have hV : RecV w1 w.heap.size z8L := RecV.new hw1
  refine ⟨z8L, rfl, hV.all, [.int .i64 (rh : Int), uh], rfl, fun j y hj => g1.cell (hq1 j y hj), (ground_c (huh.grow g1) hc hS.c8).mono ?_⟩
  rintro e w5 ⟨rfl, g5⟩
  refine ⟨_, rfl, fun w8 hw8 => RecV.init (cs := kL3 c rh) hw8 rfl (kL3_one c rh) fun w9 g9 z9 h9 => ?_⟩
  have g09 := (g1.trans g5).trans g9
  refine ⟨_, g09.cell hq2, kL3 c rh, rfl, h9.all, _, _, (hS.grow g09).look hr, ?_⟩
  by_cases hrS : rh ∈ S
  · rw [decide_eq_true hrS]
    exact cF rfl ⟨rfl, .inl ⟨hrS, g09⟩⟩
  · rw [decide_eq_false hrS]
    have hF9 := hF.grow g09
    refine cT rfl ⟨_, hF9.cell, kL3 c rh, rfl, h9.all, bs1 el_fk (by omega) (by omega) (cs := (kL3 c rh).toArray) rfl w9 fun w17 hw17 => ?_⟩
    have g17 := alloc_grow hw17
    have hne : ∀ k, some k = fv.ownBlock → BF ≤ k := fun k e => (Own.lt ho e.symm).1
    refine pappR (f := kL3 c) (x := rh) (xs := fs) el_fk (by omega) (fun _ => rfl) (kL3_one c) hw17 (Own.grow ho g09) (by have := g09.size; omega) (by omega) (by omega) fun v' w20 ho2 hf2 => ?_
    have hF20 : Box w20 F fv := (hF9.grow g17).fr hf2 fun e => by have := hne _ e; omega
    refine ⟨Own.one ho2, ⟨_, hF20.cell⟩, hF20.free, fun w21 hw21 => ⟨rfl, .inr ⟨hrS, v', hF20.set hw21, Own.fr ho2 (set_fr hw21) fun k hk e => by have := (Own.lt ho2 hk).1; have e : k = F := e; omega, ?_⟩⟩⟩
    exact (Fr.of_grow (g09.trans g17)).trans ((hf2.mono fun i _ e => .inr ⟨hne i e, e⟩).trans ((set_fr hw21).mono fun i _ e => .inl e))
/-! ## Rules -/
/-- A rule: its Head's Rel, and those of its Body. -/
def repRule (c : Nat) (w : World) (cs : List Value) (r : Nat × List Nat) : Prop := ∃ uh bv, cs = [.int .i64 (r.1 : Int), uh, bv] ∧ SlI w uh [-(c : Int)] ∧ SlX 3 (repLit c) w bv r.2
theorem repRule_mono (c : Nat) : Mono (repRule c) := fun w w' cs x hg ⟨u, v, h1, h2, h3⟩ => ⟨u, v, h1, h2.grow hg, h3.grow (repLit_mono c) hg⟩
theorem strata_c {c : Nat} {w : World} {lv : Value} {RL : List (Nat × List Nat)} (hl : SlX 3 (repRule c) w lv RL) (hb : ∀ r ∈ RL, r.1 < 6 ∧ ∀ b ∈ r.2, b < 6) : Calls Try.prog 68 #[lv] w fun e w' => ∃ v, e = .returned (.tuple #[v, .bool true]) ∧ SlI w' v [0, 0, 0, 0, 0, 0] ∧ Grow w w' := by
  refine f68_calls _ ⟨⟨by omega, by omega, by omega, by omega⟩, fun w1 hw1 => ?_⟩
  have g1 := alloc_grow hw1
  have hz : SlI w1 (.slice (some ⟨w.heap.size, 0, none⟩) 6 6) [0, 0, 0, 0, 0, 0] := (Own.made hw1 (n := 6) rfl (Nat.le_refl _) (by omega)).slC
  have z0 : ∀ b, (h : b < 6) → ([0, 0, 0, 0, 0, 0] : List Int)[b]'(by simpa using h) = 0 := by decide
  have hle := SlX.len_le hl
  refine ⟨fun t w' => t = 0 ∧ w' = w1, fun _ _ => 0, ⟨rfl, rfl⟩, ?_⟩
  rintro - t w6 ⟨rfl, rfl⟩
  refine SlX.ln (hl.grow (repRule_mono c) g1) ⟨fun a t w' => ∃ k : Nat, a = false ∧ t = k ∧ k ≤ RL.length ∧ Grow w6 w', fun _ t _ => RL.length - t.toNat, ⟨0, rfl, rfl, by omega, Grow.refl _⟩, ?_⟩
  rintro - a t w15 ⟨k, rfl, rfl, hk, g15⟩
  have g015 := g1.trans g15
  refine condD (fun hlt => ?_) fun hge => ?_
  · have hkl : k < RL.length := by omega
    have hbk := hb _ (List.getElem_mem hkl)
    refine SlX.rd (hl.grow (repRule_mono c) g015) rfl hkl ?_
    rintro cs - ⟨uh, bv, rfl, huh, hbv⟩ w20 hw20
    refine RecV.init (cs := [.int .i64 (RL[k].1 : Int), uh, bv]) hw20 rfl (by
      intro y hy
      simp at hy
      rcases hy with rfl | rfl | rfl
      · rfl
      · exact huh.one.2
      · exact hbv.one.2) fun w21 g21 z21 h21 => ?_
    have hbv21 := hbv.grow (repLit_mono c) g21
    have hle2 := SlX.len_le hbv21
    refine ⟨_, h21.cell (j := 2) rfl, SlX.ln hbv21 ⟨fun a t w' => ∃ j : Nat, a = false ∧ t = j ∧ j ≤ RL[k].2.length ∧ Grow w21 w', fun _ t _ => RL[k].2.length - t.toNat, ⟨0, rfl, rfl, by omega, Grow.refl _⟩, ?_⟩⟩
    rintro - a t w32 ⟨j, rfl, rfl, hj, g32⟩
    refine condD (fun hlt2 => ?_) fun hge2 => ?_
    · have hjl : j < RL[k].2.length := by omega
      have hb6 := hbk.2 _ (List.getElem_mem hjl)
      refine SlX.rd (hbv21.grow (repLit_mono c) g32) rfl hjl ?_
      rintro cs - ⟨u, rfl, hu⟩ w37 hw37
      refine RecV.init (cs := [.bool false, .int .i64 ((RL[k].2)[j] : Int), u]) hw37 rfl (by
        intro y hy
        simp at hy
        rcases hy with rfl | rfl | rfl
        · rfl
        · rfl
        · exact hu.one.2) fun w38 g38 z38 h38 => ?_
      have g2138 := g32.trans g38
      have hz38 := ((hz.grow g15).grow g21).grow g2138
      have hR38 := h21.grow g2138
      refine ⟨_, by rw [add_add]; exact h38.cell (j := 1) rfl, hz38.rd (i := (RL[k].2)[j]) rfl (by simpa using hb6) ?_⟩
      rw [z0 _ hb6]
      refine ⟨_, h38.cell (j := 0) rfl, cF rfl ⟨_, by rw [add_add]; exact hR38.cell (j := 0) rfl, hz38.rd (i := RL[k].1) rfl (by simpa using hbk.1) ?_⟩⟩
      rw [z0 _ hbk.1]
      exact cF rfl ⟨by unfold inR; omega, ⟨j + 1, rfl, by omega, by omega, g2138⟩, by first | omega | (dsimp only; omega)⟩
    · exact ⟨by unfold inR; omega, ⟨k + 1, rfl, by omega, by omega, (g15.trans g21).trans g32⟩, by first | omega | (dsimp only; omega)⟩
  · exact cT rfl ⟨_, rfl, hz.grow g15, g015⟩
theorem pinS {α : Type} {k : Nat} {rep : World → List Value → α → Prop} {w0 w : World} {v : Value} {xs : List α} (h : SlX k rep w0 v xs) (g : Grow w0 w) : SlX k (fun _ cs x => rep w0 cs x) w v xs := by
  obtain ⟨a, c, e, h1, h2, h3, h4⟩ := h.ex
  exact ⟨a, c, e, h1, h2, h3, fun i hi => by
    obtain ⟨b, cs, e1, e2, e3, e4⟩ := h4 i hi
    exact ⟨b, cs, e1, e2, fun t u ht => g.cell (e3 t u ht), e4⟩⟩
/-- The atoms of a rule. -/
def atomsN (c : Nat) (l : List Nat) : List (Int × List Int) := l.map fun b : Nat => ((b : Int), [-(c : Int)])
end Go.Proofs.Ytleiddajojgmmaa
