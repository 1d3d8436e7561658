/- Slices of structs of one-cell fields that came in: opened; loads at whatever address. -/
import Derived.Test.YtaofpeajfgcjcaaWkX
import Derived.Deep.Slices
import Derived.ChangeArms
import Derived.WideShapes
import Derived.OpenShut
namespace Go.Proofs.Ytaofpeajfgcjcaa
open Go Go.RowKit Go.WideShapes

/-- What a field of one cell may hold. -/
inductive FK | int (k : IntKind) | str | bool
def FK.ok : FK → Value → Prop
  | .int k, v => ∃ n : Int, v = .int k n ∧ (Lit.int k n).wf = true
  | .str, v => ∃ s : ByteArray, v = .string s ∧ s.size ≤ maxLen
  | .bool, v => ∃ b : Bool, v = .bool b
def FK.desc : FK → TypeDesc
  | .int k => .int k
  | .str => .string
  | .bool => .bool
/-- A row of values, each of its field's kind. -/
def okRec (ks : List FK) (r : List Value) : Prop := r.length = ks.length ∧ ∀ (j : Nat) (k : FK) (v : Value), ks[j]? = some k → r[j]? = some v → k.ok v
/-- A slice of such structs, read. -/
def IsRecs (ks : List FK) (w : World) (a : Option Addr) (len : Nat) (rs : List (List Value)) : Prop :=
  (a = none ∧ len = 0 ∧ rs = []) ∨ ∃ x : Addr, a = some x ∧ (rs.length = len ∧ len ≤ 140737488351232) ∧ ∀ (i : Nat) (r : List Value), rs[i]? = some r → okRec ks r ∧ ∀ (j : Nat) (v : Value), r[j]? = some v → w.cell? (x.add (i * ks.length + j)) = some v
theorem IsRecs.len {ks : List FK} {w : World} {a : Option Addr} {len : Nat} {rs : List (List Value)} (h : IsRecs ks w a len rs) : rs.length = len := by
  rcases h with ⟨_, rfl, rfl⟩ | ⟨x, _, h, _⟩
  · rfl
  · exact h.1
theorem IsRecs.small {ks : List FK} {w : World} {a : Option Addr} {len : Nat} {rs : List (List Value)} (h : IsRecs ks w a len rs) : len ≤ 140737488351232 := by
  rcases h with ⟨_, rfl, rfl⟩ | ⟨x, _, h, _⟩
  · omega
  · exact h.2
theorem IsRecs.at {ks : List FK} {w : World} {a : Option Addr} {len : Nat} {rs : List (List Value)} (h : IsRecs ks w a len rs) {i : Nat} {r : List Value} (hi : rs[i]? = some r) : okRec ks r ∧ ∃ x, a = some x ∧ ∀ (j : Nat) (v : Value), r[j]? = some v → w.cell? (x.add (i * ks.length + j)) = some v := by
  rcases h with ⟨_, _, rfl⟩ | ⟨x, hx, _, h⟩
  · simp at hi
  · exact ⟨(h i r hi).1, x, hx, (h i r hi).2⟩
theorem IsRecs.below {ks : List FK} {w w' : World} {a : Option Addr} {len : Nat} {rs : List (List Value)} (h : IsRecs ks w a len rs) (hB : Below w.heap.size w w') : IsRecs ks w' a len rs := by
  rcases h with h | ⟨x, hx, hl, hc⟩
  · exact .inl h
  · exact .inr ⟨x, hx, hl, fun i r hi => ⟨(hc i r hi).1, fun j v hj => by
      have h1 := (hc i r hi).2 j v hj
      exact (hB.cell (World.block_lt_of_cell? w _ h1)).trans h1⟩⟩
theorem open_recs {H : Type} {enc : TypeId × Value → H} {P : Program} {w : World} {base : Nat} {spare : Nat → Bool} {held : Bool} {t e : TypeId} {fuel : Nat} {cs : List Value} {x : DataW H × List MemPlace} (ks : List FK) (hk0 : 0 < ks.length) {fs : Array Field}
    (ht : P.underlying t = some (.slice e)) (he : P.underlying e = some (.struct fs)) (ce : P.cellsOf e = ks.length) (hfs : fs.size = ks.length)
    (hf : ∀ (j : Nat) (k : FK), ks[j]? = some k → ∃ f : Field, fs[j]? = some f ∧ f.offset = j ∧ P.cellsOf f.type = 1 ∧ P.underlying f.type = some k.desc)
    (h : DataW.trod enc P w base spare held fuel t cs = some x) (hz : ∀ es sp, x.1 = .slice es sp → es.length ≤ 140737488351232) : ∃ a len cap rs, cs = [.slice a len cap] ∧ IsRecs ks w a len rs := by
  rcases Deep.open_slice ht h with ⟨rfl, _⟩ | ⟨a, len, cap, m, n, D, Pl, rfl, hb, hl, hm, hmm, hxx, hx⟩
  · exact ⟨none, 0, 0, [], rfl, .inl ⟨rfl, rfl, rfl⟩⟩
  have hlm : len ≤ m := by rw [hmm]; split <;> omega
  have each : ∀ i, i < len → ∃ r : List Value, okRec ks r ∧ ∀ j v, r[j]? = some v → w.cell? (a.add (i * ks.length + j)) = some v := by
    intro i hi
    obtain ⟨cs', h1, h2⟩ := hx i (by omega)
    rw [ce] at h1
    obtain ⟨_, hlen, hcell⟩ := World.cells?_some h1
    obtain ⟨xs, q, _, _, hl2, hxl, hff⟩ := DataW.trod_struct he h2
    refine ⟨cs', ⟨hlen, fun j k v hk hv => ?_⟩, fun j v hv => ?_⟩
    · obtain ⟨f, hfj, ho, hc1, hu⟩ := hf j k hk
      have h3 := hff j f hfj
      have hjx : j < xs.length := by rw [hxl]; exact (Array.getElem?_eq_some_iff.1 hfj).1
      rw [ho, hc1, List.getElem?_eq_getElem hjx] at h3
      have hd : (cs'.drop j).take 1 = [v] := by
        have hjl := (List.getElem?_eq_some_iff.1 hv).1
        rw [List.drop_eq_getElem_cons hjl, List.take_succ_cons, List.take_zero]
        rw [List.getElem?_eq_getElem hjl] at hv
        rw [Option.some.inj hv]
      rw [hd] at h3
      cases k with
      | int k =>
        obtain ⟨z, hz, _, hw⟩ := DataW.trod_int hu h3
        exact ⟨z, by simpa using hz, hw⟩
      | str =>
        obtain ⟨s, hs, _, hw⟩ := DataW.trod_string hu h3
        exact ⟨s, by simpa using hs, hw⟩
      | bool =>
        obtain ⟨b, hs, _⟩ := DataW.trod_bool hu h3
        exact ⟨b, by simpa using hs⟩
    · have hjl : j < ks.length := by rw [← hlen]; exact (List.getElem?_eq_some_iff.1 hv).1
      have := hcell j hjl
      rw [Deep.add_add] at this
      rw [this, hv]
  obtain ⟨R, hR⟩ := Deep.choose_lt (α := List Value) each
  refine ⟨some a, len, cap, (List.range len).map R, rfl, .inr ⟨a, rfl, ⟨by simp, ?_⟩, fun i r hi => ?_⟩⟩
  · have := hz _ _ (by rw [hxx])
    simpa using this
  rw [List.getElem?_map] at hi
  obtain ⟨k, hk, rfl⟩ := Option.map_eq_some_iff.1 hi
  have hil : i < len := by have := (List.getElem?_eq_some_iff.1 hk).1; simpa using this
  rw [List.getElem?_range hil] at hk
  cases hk
  exact hR i hil
/-- A whole row of cells is read, at whatever address. -/
theorem run_loadVar_addr {P : Program} (w : World) (ad : Addr) (ty : TypeId) (cs : List Value) (d : TypeDesc) (hc : ∀ j v, cs[j]? = some v → w.cell? (ad.add j) = some v)
    (hu : P.underlying ty = some d) (hd : d.isRow = true) (hi : (P.info? ty).map (·.size) = some cs.length) : (loadVar ty ad).run P w = .ok (.agg cs.toArray) w := by
  have hl := run_loadCells_list (P := P) w ad cs hc
  cases hq : P.info? ty with
  | none => simp [hq] at hi
  | some i =>
    have hs : i.size = cs.length := by simpa [hq] using hi
    have hagg : (isAgg ty).run P w = .ok true w := by
      unfold isAgg
      rw [Sem.run_bind, run_underlying hu w]
      cases d <;> simp_all
    simp [loadVar, Sem.run_bind, hagg, sizeOf, typeInfo, hq, hs, hl]
theorem wpList_load_addr {P : Program} {ops : Array Oper} {rest : List Oper} {o : Oper} {a : Act} {w : World} {Q : Exit → Act → World → Prop} (hgd : o.guard = none) (ty : TypeId) (x : Operand) (ho : o.op = .load ty x)
    (ad : Addr) (hx : a.eval x = .pointer (some ad)) (cs : List Value) (d : TypeDesc) (hc : ∀ j v, cs[j]? = some v → w.cell? (ad.add j) = some v)
    (hu : P.underlying ty = some d) (hd : d.isRow = true) (hi : (P.info? ty).map (·.size) = some cs.length)
    (h : wpList P ops Q rest (a.put o.dst (.agg cs.toArray)) w) : wpList P ops Q (o :: rest) a w := by
  refine wpList_plain hgd fun K hK => ?_
  unfold Oper.wp execOp
  simp only [ho, hx, Instr.loadAt, Instr.sureAddr, Sem.run_bind, Sem.run_pure, Result.andThen_ok, run_loadVar_addr (P := P) w ad ty cs d hc hu hd hi]
  exact hK _ _ h
theorem wpListIn_load_addr {F : Fence} {n : Nat} {P : Program} {ops : Array Oper} {rest : List Oper} {o : Oper} {a : Act} {w : World} {Q : Exit → Act → World → Prop} (hgd : o.guard = none) (ty : TypeId) (x : Operand) (ho : o.op = .load ty x)
    (ad : Addr) (hx : a.eval x = .pointer (some ad)) (cs : List Value) (d : TypeDesc) (hc : ∀ j v, cs[j]? = some v → w.cell? (ad.add j) = some v)
    (hu : P.underlying ty = some d) (hd : d.isRow = true) (hi : (P.info? ty).map (·.size) = some cs.length)
    (h : wpListIn F n P ops Q rest (a.put o.dst (.agg cs.toArray)) w) : wpListIn F n P ops Q (o :: rest) a w := by
  refine wpListIn_plain hgd fun K hK => ?_
  unfold Oper.wpIn
  refine ⟨by simp [Oper.about, ho], ?_⟩
  rw [Oper.semAt_plain F _ _ (by rw [ho]; intro c hc'; cases hc')]
  unfold execOp
  simp only [ho, hx, Instr.loadAt, Instr.sureAddr, Sem.run_bind, Sem.run_pure, Result.andThen_ok, run_loadVar_addr (P := P) w ad ty cs d hc hu hd hi]
  exact hK _ _ h
end Go.Proofs.Ytaofpeajfgcjcaa
