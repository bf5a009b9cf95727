/- From a contract that says 'true, and nothing that was there has turned' to the row's own step: slices of ints opened, arguments read again. Of no program. -/
import Derived.Test.YtleiddajojgmmaaVr
import Derived.ProofKit
import Derived.ChangeSame
import Derived.ChangeSlices
import Derived.OpenShut
import Derived.Carry
import Derived.LaidMore
import Derived.Lib.LaidTab
import Derived.JoinedOf
import Derived.LaidHandle
import Derived.MakeChecks
import Derived.Stop.Joined
namespace Go.Proofs.Ytleiddajojgmmaa
open Go Go.RowKit Go.ChangeShapes Go.WideShapes VC
set_option linter.unusedSimpArgs false
set_option linter.unusedVariables false
section
variable {H : Type} {enc : TypeId × Value → H} {P : Program}

theorem trodAll_below (hl : laidOutB P = true) {W W' : World} (hb : Below W.heap.size W W') : ∀ {ts : List TypeId} {vs : List Value} {ds : List (DataW H)} {ps : List MemPlace},
    (∀ t ∈ ts, P.readableRec t = true ∧ t < P.types.size) → DataW.TrodAll enc P W 0 (fun _ => true) true ts vs ds ps → (∀ x ∈ ps, x.block < W.heap.size) → DataW.TrodAll enc P W' 0 (fun b => decide (b < W.heap.size)) true ts vs ds ps
  | [], vs, ds, ps, _, h, _ => by
    obtain ⟨rfl, rfl, rfl⟩ := trodAll_nil h
    rfl
  | t :: ts, _, _, _, hr, h, hlt => by
    obtain ⟨v, vs, d, ds, p, q, rfl, rfl, rfl, h1, h2⟩ := trodAll_cons h
    refine ⟨p, q, Below.trod hl (hr t (List.mem_cons_self ..)).1 (hr t (List.mem_cons_self ..)).2 h1 hb fun x hx => hlt x (by simp [hx]), ?_, rfl⟩
    exact trodAll_below hl hb (fun u hu => hr u (List.mem_cons_of_mem _ hu)) h2 fun x hx => hlt x (by simp [hx])
/-- The row's step of a law: it returned true, and nothing that was there has turned. -/
theorem post_law {f : Func} {s : ChangeSpec} {apart fresh handsOn : Bool} {W W' : World} {args : Array Value} {ds : List (DataW H)} {before : List MemPlace} {tb : TypeId}
    (hl : laidOutB P = true) (hr : ∀ t ∈ f.params.toList, P.readableRec t = true ∧ t < P.types.size) (hv : s.vars = [])
    (hres : (s.fn H (ds ++ [])).results = [.lit (.bool true)]) (hargs : (s.fn H (ds ++ [])).args = ds) (hvs : (s.fn H (ds ++ [])).vars = [])
    (hrt : f.resultTypes = #[tb]) (htb : P.underlying tb = some .bool)
    (hW : DataW.Whole enc P f.params.toList s.vars apart W args.toList ds [] before) (hb : Below W.heap.size W W') : s.post enc P f apart fresh handsOn false W args (.bool true) W' := by
  have hW' := hW
  have hlt := hW.lt
  obtain ⟨p, q, hA, hV, rfl, hfz, hnd⟩ := hW
  have hq : q = [] := by rw [hv] at hV; exact hV
  subst hq
  refine ⟨ds, [], _, [], p, [], hW', ?_, ?_, ?_, hb.frame _, fun h => by cases h⟩
  · rw [hres, hrt]
    exact trodAll_mk1 (shut_bool htb true)
  · rw [hargs]
    exact trodAll_below hl hb hr hA fun x hx => hlt x (by simp [hx])
  · rw [hv, hvs]; rfl
theorem sl_ints {w : World} {a : Addr} {len cap : Nat} {zs : List Int} (h1 : len ≤ cap) (h2 : cap ≤ maxLen) (h3 : zs.length = cap) (h4 : ∀ i, i < zs.length → w.cell? (a.add i) = some (.int .i64 (zs.getD i 0))) : SlI w (.slice (some a) len cap) (zs.take len) := by
  have hl : (zs.take len).length = len := by simp; omega
  unfold SlI
  rw [hl]
  refine ⟨some a, cap, rfl, h1, h2, (fun h => by cases h), fun j u hj => ⟨a, rfl, ?_⟩⟩
  simp only [List.map_take, List.getElem?_take, List.getElem?_map, Option.map_eq_some_iff] at hj
  split at hj
  · obtain ⟨z, hz, rfl⟩ := Option.map_eq_some_iff.1 hj
    have := (List.getElem?_eq_some_iff.1 hz)
    obtain ⟨hjl, hzj⟩ := this
    rw [h4 j hjl]
    simp [List.getD, hjl, hzj, encI]
  · cases hj
/-- A slice of ints that came in. -/
theorem arg_ints {t e : TypeId} {W : World} {base : Nat} {v : Value} {d : DataW H} {ps : List MemPlace} (ht : P.underlying t = some (.slice e)) (he : P.underlying e = some (.int .i64)) (hc : P.cellsOf e = 1)
    (hok : Value.okWide P W .any base t v) (h : DataW.Trod enc P W 0 (fun _ => true) true t v d ps) : ∃ xs, SlI W v xs := by
  obtain ⟨a0, len, cap, rfl⟩ := okWide_slice ht hok
  obtain ⟨fuel, hf⟩ := h
  rcases open_ints ht he hc hf with ⟨hcs, -⟩ | ⟨a, len', cap', zs, hcs, -, hl, hm, hz, -, hcell, -⟩
  · have : (Value.slice a0 len cap) = .slice none 0 0 := by simpa [Value.cells] using hcs
    rw [this]
    exact ⟨[], SlI.nil W⟩
  · have : (Value.slice a0 len cap) = .slice (some a) len' cap' := by simpa [Value.cells] using hcs
    rw [this]
    exact ⟨_, sl_ints hl hm (by simpa using hz) hcell⟩
theorem list_of {α : Type} {R : Nat → α → Prop} : ∀ n, (∀ i, i < n → ∃ y, R i y) → ∃ xs : List α, xs.length = n ∧ ∀ i (hi : i < xs.length), R i xs[i]
  | 0, _ => ⟨[], rfl, fun i hi => by simp at hi⟩
  | n + 1, h => by
    obtain ⟨xs, hl, hx⟩ := list_of n fun i hi => h i (by omega)
    obtain ⟨y, hy⟩ := h n (by omega)
    refine ⟨xs ++ [y], by simp [hl], fun i hi => ?_⟩
    by_cases e : i < xs.length
    · rw [List.getElem_append_left e]; exact hx i e
    · have : i = n := by simp at hi; omega
      subst this
      rw [List.getElem_append_right (by omega)]
      simpa using hy
/-- A slice that came in, its elements read by a relation. -/
theorem trod_slX {α : Type} {k : Nat} {rep : World → List Value → α → Prop} {t e : TypeId} {W : World} {fuel : Nat} {cs : List Value} {x : DataW H × List MemPlace} (ht : P.underlying t = some (.slice e)) (hk : P.cellsOf e = k)
    (hrep : ∀ n cs x, DataW.trod enc P W 0 (fun _ => true) true n e cs = some x → cs.length = k → ∃ y : α, rep W cs y) (h : DataW.trod enc P W 0 (fun _ => true) true fuel t cs = some x) : ∃ v xs, cs = [v] ∧ SlX k rep W v xs := by
  rcases DataW.trod_slice ht h with ⟨rfl, -⟩ | ⟨a, len, cap, elems, rest, n, -, rfl, -, -, hl, hm, hlen, hel, -, -⟩
  · exact ⟨_, [], rfl, SlX.nil W⟩
  obtain ⟨xs, hx1, hx2⟩ := list_of (R := fun i (y : α) => ∃ cs : List Value, cs.length = k ∧ (∀ t u, cs[t]? = some u → W.cell? (a.add (i * k + t)) = some u) ∧ rep W cs y) len fun i hi => by
    have h1 := hel i hi
    have hi' : i < elems.length := by omega
    rw [List.getElem?_eq_getElem hi', Option.bind_eq_some_iff] at h1
    obtain ⟨cs, hcs, hy⟩ := h1
    obtain ⟨-, c2, c3⟩ := World.cells?_some hcs
    rw [hk] at c2 c3
    obtain ⟨y, hy⟩ := hrep n cs _ hy c2
    refine ⟨y, cs, c2, fun t u htu => ?_, hy⟩
    have htk : t < k := by rw [← c2]; exact (List.getElem?_eq_some_iff.1 htu).1
    have := c3 t htk
    rw [add_add] at this
    rw [this, htu]
  refine ⟨_, xs, rfl, some a, cap, by rw [hx1], by omega, by simpa [maxLen] using hm, (fun h => by cases h), fun i hi => ?_⟩
  obtain ⟨cs, c1, c2, c3⟩ := hx2 i hi
  exact ⟨a, cs, rfl, c1, c2, c3⟩
theorem trod_one {t : TypeId} {W : World} {v : Value} {d : DataW H} {ps : List MemPlace} (hv : v.cells = #[v]) (h : DataW.Trod enc P W 0 (fun _ => true) true t v d ps) : ∃ fuel, DataW.trod enc P W 0 (fun _ => true) true fuel t [v] = some (d, ps) := by
  obtain ⟨fuel, hf⟩ := h
  rw [hv] at hf
  exact ⟨fuel, hf⟩
/-- A slice of pairs of ints that came in. -/
theorem arg_recs2 {t e : TypeId} {f0 f1 : Field} {W : World} {base : Nat} {v : Value} {d : DataW H} {ps : List MemPlace} (ht : P.underlying t = some (.slice e)) (he : P.underlying e = some (.struct #[f0, f1])) (hc : P.cellsOf e = 2)
    (h0 : P.underlying f0.type = some (.int .i64)) (h1 : P.underlying f1.type = some (.int .i64)) (ho : f0.offset = 0 ∧ f1.offset = 1 ∧ P.cellsOf f0.type = 1 ∧ P.cellsOf f1.type = 1)
    (hok : Value.okWide P W .any base t v) (h : DataW.Trod enc P W 0 (fun _ => true) true t v d ps) : ∃ xs, SlR spF W v xs := by
  obtain ⟨a0, len, cap, rfl⟩ := okWide_slice ht hok
  obtain ⟨fuel, hf⟩ := trod_one rfl h
  obtain ⟨v', xs, hv, hx⟩ := trod_slX (α := Int × Int) (k := 2) (rep := fun _ cs x => cs = spF x) ht hc (fun n cs x hx hl => by
    obtain ⟨ys, m, -, -, -, hlen, hfld⟩ := DataW.trod_struct he hx
    match cs, hl with
    | [c0, c1], _ =>
      have g0 := hfld 0 f0 rfl
      have g1 := hfld 1 f1 rfl
      simp only [ho.1, ho.2.1, ho.2.2.1, ho.2.2.2] at g0 g1
      have l0 : 0 < ys.length := by rw [hlen]; simp
      have l1 : 1 < ys.length := by rw [hlen]; simp
      rw [List.getElem?_eq_getElem l0] at g0
      rw [List.getElem?_eq_getElem l1] at g1
      obtain ⟨n0, e0, -, -⟩ := DataW.trod_int h0 g0
      obtain ⟨n1, e1, -, -⟩ := DataW.trod_int h1 g1
      refine ⟨(n0, n1), ?_⟩
      simp at e0 e1
      rw [e0, e1]; rfl) hf
  obtain rfl : Value.slice a0 len cap = v' := by simpa using hv
  exact ⟨xs, hx.slR spF_len⟩
/-- A slice of triples of ints that came in. -/
theorem arg_recs3 {t e : TypeId} {f0 f1 f2 : Field} {W : World} {base : Nat} {v : Value} {d : DataW H} {ps : List MemPlace} (ht : P.underlying t = some (.slice e)) (he : P.underlying e = some (.struct #[f0, f1, f2])) (hc : P.cellsOf e = 3)
    (h0 : P.underlying f0.type = some (.int .i64)) (h1 : P.underlying f1.type = some (.int .i64)) (h2 : P.underlying f2.type = some (.int .i64)) (ho : f0.offset = 0 ∧ f1.offset = 1 ∧ f2.offset = 2 ∧ P.cellsOf f0.type = 1 ∧ P.cellsOf f1.type = 1 ∧ P.cellsOf f2.type = 1)
    (hok : Value.okWide P W .any base t v) (h : DataW.Trod enc P W 0 (fun _ => true) true t v d ps) : ∃ xs, SlR opF W v xs := by
  obtain ⟨a0, len, cap, rfl⟩ := okWide_slice ht hok
  obtain ⟨fuel, hf⟩ := trod_one rfl h
  obtain ⟨v', xs, hv, hx⟩ := trod_slX (α := Int × Int × Int) (k := 3) (rep := fun _ cs x => cs = opF x) ht hc (fun n cs x hx hl => by
    obtain ⟨ys, m, -, -, -, hlen, hfld⟩ := DataW.trod_struct he hx
    match cs, hl with
    | [c0, c1, c2], _ =>
      have g0 := hfld 0 f0 rfl
      have g1 := hfld 1 f1 rfl
      have g2 := hfld 2 f2 rfl
      simp only [ho.1, ho.2.1, ho.2.2.1, ho.2.2.2.1, ho.2.2.2.2.1, ho.2.2.2.2.2] at g0 g1 g2
      have l0 : 0 < ys.length := by rw [hlen]; simp
      have l1 : 1 < ys.length := by rw [hlen]; simp
      have l2 : 2 < ys.length := by rw [hlen]; simp
      rw [List.getElem?_eq_getElem l0] at g0
      rw [List.getElem?_eq_getElem l1] at g1
      rw [List.getElem?_eq_getElem l2] at g2
      obtain ⟨n0, e0, -, -⟩ := DataW.trod_int h0 g0
      obtain ⟨n1, e1, -, -⟩ := DataW.trod_int h1 g1
      obtain ⟨n2, e2, -, -⟩ := DataW.trod_int h2 g2
      refine ⟨(n0, n1, n2), ?_⟩
      simp at e0 e1 e2
      rw [e0, e1, e2]; rfl) hf
  obtain rfl : Value.slice a0 len cap = v' := by simpa using hv
  exact ⟨xs, hx.slR opF_len⟩
end
end Go.Proofs.Ytleiddajojgmmaa
