/- Own library, part 7: operations that make memory or write it. Conditions stand in each rule. -/
import Derived.Test.YtldgmcghdohmeaaGreatAb6
set_option linter.unusedVariables false
set_option linter.unusedSimpArgs false
namespace Go.Proofs.YtldgmcghdohmeaaGreat.Ab
open Go Go.RowKit

/-- One cell of memory. -/
def D.one : D → Bool
 | .s v => v.oneCell'
 | .agg _ => false
 | _ => true

/-- The cells that a value of this kind takes. -/
def D.cells : D → List D
 | .agg cs => cs
 | x => [x]

def D.cellsOK (d : D) : Prop := ∀ c ∈ d.cells, c.one = true

theorem RepD.oneCell {w : World} {I : Nat → Prop} {d : D} {v : Value} (h : RepD w I d v) (ho : d.one = true) : v.oneCell' = true := by
 cases h <;> first | exact ho | rfl | simp [D.one] at ho

theorem RepD.cells {w : World} {I : Nat → Prop} {d : D} {v : Value} (h : RepD w I d v) (ho : d.cellsOK) : RepL w I d.cells v.cells.toList := by
 cases h with
 | agg cs vs hl hc => exact ⟨by simpa [Value.cells, D.cells] using hl, by simpa [Value.cells, D.cells] using hc⟩
 | s v =>
  have h1 : v.oneCell' = true := by simpa [D.one] using ho (.s v) (by simp [D.cells])
  have : v.cells = #[v] := by cases v <;> simp_all [Value.cells, Value.oneCell']
  rw [this]; exact RepL.cons (.s v) RepL.nil
 | sl isNil cs vs A cap hl hn hc hA hr => exact RepL.cons (.sl isNil cs vs A cap hl hn hc hA hr) RepL.nil
 | pv cs off vs b base hl hI hcell hr => exact RepL.cons (.pv cs off vs b base hl hI hcell hr) RepL.nil
 | clo f cap vs hl hr => exact RepL.cons (.clo f cap vs hl hr) RepL.nil
 | se f A hn => exact RepL.cons (.se f A hn) RepL.nil
 | ru cs vs ty b hI hb hc hm hr => exact RepL.cons (.ru cs vs ty b hI hb hc hm hr) RepL.nil

theorem RepL.oneCells {w : World} {I : Nat → Prop} {cs : List D} {vs : List Value} (h : RepL w I cs vs) (ho : ∀ c ∈ cs, c.one = true) : ∀ v ∈ vs, v.oneCell' = true := by
 intro v hv
 obtain ⟨i, hi⟩ := List.mem_iff_getElem?.1 hv
 have hlt : i < cs.length := by rw [← h.1]; exact (List.getElem?_eq_some_iff.1 hi).1
 exact (h.2 i cs[i] v (List.getElem?_eq_getElem hlt) hi).oneCell (ho _ (List.getElem_mem hlt))

section
variable {F : Nat → Prop} {w w1 : World} {H : List AObj} {r : List Nat}

/-- A new block that an object owns. -/
theorem step_new (hh : HRel F w H r) (x : AObj) (hb : Below w.heap.size w w1) (hlt : w.heap.size < w1.heap.size) : Step w H r w1 (H ++ [x]) (r ++ [w.heap.size]) := by
 refine ⟨hb.os, hb.tape, hb.output, hb.size, fun b h => ⟨hb.block b h.1, Nat.lt_of_lt_of_le h.1 hb.size, fun o y hy hl => ?_⟩, by simp, fun o x' b' ho h1 h2 h3 => ?_, fun o g' cs' b' ho h1 h2 => ?_⟩
 ·by_cases ho : o < H.length
  ·rw [List.getElem?_append, if_pos ho] at hy
   rw [List.getElem?_append, if_pos (by rw [hh.len]; exact ho)]
   exact h.2 o y hy hl
  ·rw [List.getElem?_append, if_neg (by rw [hh.len]; exact ho)]
   intro e
   rw [List.getElem?_singleton] at e
   split at e
   ·have := Option.some.inj e; have := h.1; omega
   ·simp at e
 ·rw [List.getElem?_append, if_pos ho] at h1
  rw [List.getElem?_append, if_pos (by rw [hh.len]; exact ho)] at h2
  exact ⟨x', h1, h2, h3⟩
 ·rw [List.getElem?_append, if_pos ho] at h1
  rw [List.getElem?_append, if_pos (by rw [hh.len]; exact ho)] at h2
  refine ⟨g', cs', b', h1, h2, .inr ⟨rfl, rfl, rfl, fun vs ty h => ⟨vs, ty, ?_, rfl⟩⟩⟩
  rw [hb.block b' ((hh.obj o _ b' h1 h2).lt rfl)]; exact h

theorem RepO.step {w' : World} {H' : List AObj} {r' : List Nat} {b : Nat} {x : AObj} (h : RepO F w H r b x) (hst : Step w H r w' H' r') (same : x.live = true → w'.heap[b]? = w.heap[b]?) : RepO F w' H' r' b x := by
 cases h with
 | gone => exact .gone
 | mp v I c hv hb' hI0 => exact .mp v I c hv (by rw [same rfl]; exact hb') hI0
 | box cs vs ty hb' hl => exact .box cs vs ty (by rw [same rfl]; exact hb') (hl.mono hst.imm)
 | ref v z ty hb' hl => exact .ref v z ty (by rw [same rfl]; exact hb') (hl.step hst)
 | vec g cs vs ty hb' hc hm hl => exact .vec g cs vs ty (by rw [same rfl]; exact hb') hc hm (hl.mono hst.imm)

theorem hrel_new (hh : HRel F w H r) (x : AObj) (hb : Below w.heap.size w w1) (hlt : w.heap.size < w1.heap.size) (hx : RepO F w1 (H ++ [x]) (r ++ [w.heap.size]) w.heap.size x) : HRel F w1 (H ++ [x]) (r ++ [w.heap.size]) := by
 have hst := step_new hh x hb hlt
 have at_ : ∀ (o : Nat) (y : AObj) (b : Nat), (H ++ [x])[o]? = some y → (r ++ [w.heap.size])[o]? = some b → (o < H.length ∧ H[o]? = some y ∧ r[o]? = some b) ∨ (o = H.length ∧ y = x ∧ b = w.heap.size) := by
  intro o y b h1 h2
  by_cases ho : o < H.length
  ·rw [List.getElem?_append, if_pos ho] at h1
   rw [List.getElem?_append, if_pos (by rw [hh.len]; exact ho)] at h2
   exact .inl ⟨ho, h1, h2⟩
  ·rw [List.getElem?_append, if_neg ho, List.getElem?_singleton] at h1
   rw [List.getElem?_append, if_neg (by rw [hh.len]; exact ho), List.getElem?_singleton] at h2
   split at h1
   ·split at h2
    ·exact .inr ⟨by omega, (Option.some.inj h1).symm, (Option.some.inj h2).symm⟩
    ·simp at h2
   ·simp at h1
 refine ⟨by simp [hh.len], ?_, ?_, ?_, fun b h => Nat.lt_of_lt_of_le (hh.fin b h) hb.size⟩
 ·intro o o' y y' b h1 l1 h2 l2 h3 h4
  rcases at_ o y b h1 h3 with ⟨a1, a2, a3⟩ | ⟨a1, a2, a3⟩ <;> rcases at_ o' y' b h2 h4 with ⟨c1, c2, c3⟩ | ⟨c1, c2, c3⟩
  ·exact hh.inj o o' y y' b a2 l1 c2 l2 a3 c3
  ·have := (hh.obj o y b a2 a3).lt l1; omega
  ·have := (hh.obj o' y' b c2 c3).lt l2; omega
  ·omega
 ·intro o y b h1 h2
  rcases at_ o y b h1 h2 with ⟨a1, a2, a3⟩ | ⟨a1, a2, a3⟩
  ·exact (hh.obj o y b a2 a3).step hst fun hl => hb.block b ((hh.obj o y b a2 a3).lt hl)
  ·subst a2; subst a3; exact hx
 ·intro o y b h1 l1 h2 hF
  rcases at_ o y b h1 h2 with ⟨a1, a2, a3⟩ | ⟨a1, a2, a3⟩
  ·exact hh.notF o y b a2 l1 a3 hF
  ·have := hh.fin b hF; omega

/-- A new block that nobody owns. -/
theorem imm_new (hh : HRel F w H r) (hlt : w.heap.size < w1.heap.size) : imm F w1 H r w.heap.size :=
 ⟨⟨hlt, fun o x h1 h2 h3 => by have := (hh.obj o x _ h1 h3).lt h2; omega⟩, fun hF => by have := hh.fin _ hF; omega⟩

/-- An object's block is written. -/
theorem step_write {k b : Nat} {x x' : AObj} {vs : Array Value} {ty : TypeId} (hh : HRel F w H r) (hk : H[k]? = some x) (hl : x.live = true) (hb : r[k]? = some b) (hw : w.heap[b]? = some (.cells vs ty (0, 0))) (vs' : Array Value)
  (hkind : (x.fixed = true ∧ x'.fixed = true) ∨ ∃ g cs cs', x = .vec g cs ∧ x' = .vec g cs' ∧ cs.length = cs'.length ∧ vs'.size = vs.size) : Step w H r (w.setRow b vs') (H.set k x') r := by
 have hkl := (List.getElem?_eq_some_iff.1 hk).1
 have live' : x'.live = true := by rcases hkind with ⟨_, h⟩ | ⟨g, cs, cs', _, h, _⟩ <;> cases x' <;> simp_all [AObj.fixed, AObj.live]
 refine ⟨rfl, rfl, rfl, by simp, fun c hc => ?_, by simp, fun o y c ho h1 h2 h3 => ?_, fun o g' cs' c ho h1 h2 => ?_⟩
 ·have hne : c ≠ b := fun e => hc.2 k x hk hl (by rw [e]; exact hb)
  refine ⟨setRow_other w b c vs' hne, by simpa using hc.1, fun o y h1 h2 => ?_⟩
  rw [List.getElem?_set] at h1
  by_cases e : k = o
  ·subst e; intro h; rw [hb] at h; exact hne (Option.some.inj h).symm
  ·rw [if_neg e] at h1; exact hc.2 o y h1 h2
 ·rw [List.getElem?_set] at h1
  by_cases e : k = o
  ·subst e
   rw [if_pos rfl, if_pos hkl] at h1
   cases h1
   rcases hkind with ⟨hf, _⟩ | ⟨g, cs, cs', _, h, _⟩
   ·exact ⟨x, hk, h2, hf⟩
   ·subst h; simp [AObj.fixed] at h3
  ·rw [if_neg e] at h1; exact ⟨y, h1, h2, h3⟩
 ·rw [List.getElem?_set] at h1
  by_cases e : k = o
  ·subst e
   rw [if_pos rfl, if_pos hkl] at h1
   cases h1
   rcases hkind with ⟨_, hf⟩ | ⟨g, cs, cs', h3, h4, h5, h6⟩
   ·simp [AObj.fixed] at hf
   ·subst h3
    cases h4
    rw [hb] at h2; cases h2
    exact ⟨g', cs, b, hk, hb, .inr ⟨rfl, rfl, h5, fun us tu h => ⟨vs', ty, setRow_heap w b vs vs' ty (0, 0) hw, by rw [hw] at h; cases h; exact h6⟩⟩⟩
  ·rw [if_neg e] at h1
   refine ⟨g', cs', c, h1, h2, .inr ⟨rfl, rfl, rfl, fun us tu h => ⟨us, tu, ?_, rfl⟩⟩⟩
   rw [setRow_other w b c vs' (fun e' => e (hh.inj k o x _ b hk hl h1 rfl hb (by rw [← e']; exact h2)))]; exact h

theorem hrel_write {k b : Nat} {x x' : AObj} (hh : HRel F w H r) (hk : H[k]? = some x) (hl : x.live = true) (hb : r[k]? = some b) (vs' : Array Value)
  (hst : Step w H r (w.setRow b vs') (H.set k x') r) (hx : RepO F (w.setRow b vs') (H.set k x') r b x') (live' : x'.live = true) : HRel F (w.setRow b vs') (H.set k x') r := by
 have hkl := (List.getElem?_eq_some_iff.1 hk).1
 have at_ : ∀ (o : Nat) (y : AObj), (H.set k x')[o]? = some y → (k = o ∧ y = x') ∨ (k ≠ o ∧ H[o]? = some y) := by
  intro o y h1
  rw [List.getElem?_set] at h1
  by_cases e : k = o
  ·subst e; rw [if_pos rfl, if_pos hkl] at h1; exact .inl ⟨rfl, (Option.some.inj h1).symm⟩
  ·rw [if_neg e] at h1; exact .inr ⟨e, h1⟩
 refine ⟨by simp [hh.len], ?_, ?_, ?_, fun c h => by simpa using hh.fin c h⟩
 ·intro o o' y y' c h1 l1 h2 l2 h3 h4
  rcases at_ o y h1 with ⟨a1, a2⟩ | ⟨a1, a2⟩ <;> rcases at_ o' y' h2 with ⟨c1, c2⟩ | ⟨c1, c2⟩
  ·omega
  ·subst a1; exact hh.inj k o' x y' c hk hl c2 l2 h3 h4
  ·subst c1; exact hh.inj o k y x c a2 l1 hk hl h3 h4
  ·exact hh.inj o o' y y' c a2 l1 c2 l2 h3 h4
 ·intro o y c h1 h2
  rcases at_ o y h1 with ⟨a1, a2⟩ | ⟨a1, a2⟩
  ·subst a1; subst a2; rw [hb] at h2; cases h2; exact hx
  ·refine (hh.obj o y c a2 h2).step hst fun hl' => setRow_other w b c vs' (fun e => a1 (hh.inj k o x y b hk hl a2 hl' hb (by rw [← e]; exact h2)))
 ·intro o y c h1 l1 h2
  rcases at_ o y h1 with ⟨a1, a2⟩ | ⟨a1, a2⟩
  ·subst a1; exact hh.notF k x c hk hl h2
  ·exact hh.notF o y c a2 l1 h2
end

section
variable {P : Program} {n : Nat} {G : Ctx} {E : Env} {H : List AObj} {ops : Array Oper} {rest : List Oper} {o : Oper} {K : Env → List AObj → Prop}

theorem below_alloc' (w : World) (x : Obj) : Below w.heap.size w (w.alloc x) := (Below.refl _ w).alloc (Nat.le_refl _) x
theorem size_alloc' (w : World) (x : Obj) : w.heap.size < (w.alloc x).heap.size := by
 show w.heap.size < (w.heap.push x).size
 simp
theorem get_alloc' (w : World) (x : Obj) : (w.alloc x).heap[w.heap.size]? = some x := by
 show (w.heap.push x)[w.heap.size]? = some x
 simp

theorem run_box (w : World) (t : TypeId) (v : Value) : (Instr.box t v).run P w = .ok (.pointer (some ⟨w.heap.size, 0, none⟩)) (w.alloc (.cells v.cells t)) := by
 simp [Instr.box, newVar, newRow]

/-- A variable in memory that is never written. -/
theorem AOps_boxI (d : Nat) (t : TypeId) (x : Operand) (y : D) (cs : List D) (hcs : y.cells = cs) (hone : ∀ c ∈ cs, c.one = true) (hw : wantedE ops E o = some true) (hd : o.dst = some d) (hlt : Nat.ble (d + 1) n = true) (hop : o.op = .box t x) (he : evalO E x = some (.d y))
  (h : AOps P n G ops rest ((d, .d (.pv cs 0)) :: E) H K) : AOps P n G ops (o :: rest) E H K := by
 subst hcs
 intro r a w hr
 unfold wpList
 rw [wantedE_sound hr hw, if_pos rfl]
 left
 have hv := evalO_sound hr he
 cases hv with
 | d _ _ hv =>
  have e : (execOp a.eval o).run P w = .ok (.value (.pointer (some ⟨w.heap.size, 0, none⟩))) (w.alloc (.cells (a.eval x).cells t)) := by
   simp [execOp, hop, run_box]
  unfold Oper.wp
  rw [e, Oper.upon_value]
  have hb := below_alloc' w (.cells (a.eval x).cells t)
  have hr1 := hr.below hb
  have hL := (hv.cells hone).mono (fun b h' => (step_of_below hr.heap hb).imm b h')
  have hI := imm_new (w1 := w.alloc (.cells (a.eval x).cells t)) hr.heap (size_alloc' _ _)
  refine h r _ _ (hr.put (step_of_below hr.heap hb) (hrel_of_below hr.heap hb) o.dst _ _ d hd (Nat.le_of_ble_eq_true hlt) ?_)
  have := RepD.pv (w := w.alloc (.cells (a.eval x).cells t)) (I := imm G.F (w.alloc (.cells (a.eval x).cells t)) H r) y.cells 0 (a.eval x).cells.toList w.heap.size 0 hL.1 hI
   (fun i v hv => by rw [World.cell_block (get_alloc' _ _)]; simpa using hv) hL.2
  exact .d _ _ (by simpa using this)

/-- A variable in memory that may be written. -/
theorem AOps_boxM (d : Nat) (t : TypeId) (x : Operand) (y : D) (cs : List D) (hcs : y.cells = cs) (hone : ∀ c ∈ cs, c.one = true) (hw : wantedE ops E o = some true) (hd : o.dst = some d) (hlt : Nat.ble (d + 1) n = true) (hop : o.op = .box t x) (he : evalO E x = some (.d y))
  (h : AOps P n G ops rest ((d, .ptr H.length 0) :: E) (H ++ [.box cs]) K) : AOps P n G ops (o :: rest) E H K := by
 subst hcs
 intro r a w hr
 unfold wpList
 rw [wantedE_sound hr hw, if_pos rfl]
 left
 have hv := evalO_sound hr he
 cases hv with
 | d _ _ hv =>
  have e : (execOp a.eval o).run P w = .ok (.value (.pointer (some ⟨w.heap.size, 0, none⟩))) (w.alloc (.cells (a.eval x).cells t)) := by
   simp [execOp, hop, run_box]
  unfold Oper.wp
  rw [e, Oper.upon_value]
  have hb := below_alloc' w (.cells (a.eval x).cells t)
  have hst := step_new hr.heap (.box y.cells) hb (size_alloc' _ _)
  have hx : RepO G.F (w.alloc (.cells (a.eval x).cells t)) (H ++ [.box y.cells]) (r ++ [w.heap.size]) w.heap.size (.box y.cells) :=
   .box _ _ t (get_alloc' _ _) ((hv.cells hone).mono hst.imm)
  refine h _ _ _ (hr.put hst (hrel_new hr.heap _ hb (size_alloc' _ _) hx) o.dst _ _ d hd (Nat.le_of_ble_eq_true hlt) (.ptr _ 0 _ (by simp) fun x' b h1 h2 _ => ?_))
  simp [← hr.heap.len] at h2
  rw [← h2]

/-- The zero of a type, cell by cell. -/
def zD : Value → D
 | .slice none 0 0 => .sl (some true) []
 | v => .s v

theorem zD_rep {w : World} {I : Nat → Prop} (v : Value) : RepD w I (zD v) v := by
 unfold zD
 split
 ·exact .sl (some true) [] [] none 0 rfl (by simp) (by simp) (by simp) (by simp)
 ·exact .s _

theorem zD_repL {w : World} {I : Nat → Prop} (vs : List Value) : RepL w I (vs.map zD) vs := by
 refine ⟨by simp, fun i c v hc hv => ?_⟩
 rw [List.getElem?_map, hv] at hc
 simp at hc; subst hc; exact zD_rep v

theorem AOps_alloc (d : Nat) (t : TypeId) (z : Value) (cs : List D) (hz : ∀ w, (zeroValue t).run P w = .ok z w) (hcs : z.cells.toList.map zD = cs) (hw : wantedE ops E o = some true) (hd : o.dst = some d) (hlt : Nat.ble (d + 1) n = true) (hop : o.op = .alloc t)
  (h : AOps P n G ops rest ((d, .ptr H.length 0) :: E) (H ++ [.box cs]) K) : AOps P n G ops (o :: rest) E H K := by
 subst hcs
 intro r a w hr
 unfold wpList
 rw [wantedE_sound hr hw, if_pos rfl]
 left
 have e : (execOp a.eval o).run P w = .ok (.value (.pointer (some ⟨w.heap.size, 0, none⟩))) (w.alloc (.cells z.cells t)) := by
  simp [execOp, hop, Instr.alloc, hz, newVar, newRow]
 unfold Oper.wp
 rw [e, Oper.upon_value]
 have hb := below_alloc' w (.cells z.cells t)
 have hst := step_new hr.heap (.box (z.cells.toList.map zD)) hb (size_alloc' _ _)
 have hx : RepO G.F (w.alloc (.cells z.cells t)) (H ++ [.box (z.cells.toList.map zD)]) (r ++ [w.heap.size]) w.heap.size (.box (z.cells.toList.map zD)) := .box _ _ t (get_alloc' _ _) (zD_repL _)
 refine h _ _ _ (hr.put hst (hrel_new hr.heap _ hb (size_alloc' _ _) hx) o.dst _ _ d hd (Nat.le_of_ble_eq_true hlt) (.ptr _ 0 _ (by simp) fun x' b h1 h2 _ => ?_))
 simp [← hr.heap.len] at h2
 rw [← h2]

/-- A store of data into a variable, from one cell on. -/
theorem AOps_store (k off : Nat) (t : TypeId) (x y : Operand) (cs ds cs' : List D) (z : D) (hw : wantedE ops E o = some true) (hd : o.dst = none) (hop : o.op = .store t x y) (hx : evalO E x = some (.ptr k off)) (hk : H[k]? = some (.box cs)) (hy : evalO E y = some (.d z)) (hds : z.cells = ds)
  (hone : ∀ c ∈ ds, c.one = true) (hsz : ∀ w, (sizeOf t).run P w = .ok ds.length w) (hfit : off + ds.length ≤ cs.length) (hcs' : cs.take off ++ ds ++ cs.drop (off + ds.length) = cs')
  (h : AOps P n G ops rest E (H.set k (.box cs')) K) : AOps P n G ops (o :: rest) E H K := by
 subst hds
 intro r a w hr
 unfold wpList
 rw [wantedE_sound hr hw, if_pos rfl]
 left
 have hev := evalO_sound hr hx
 have hev2 := evalO_sound hr hy
 cases hev2 with
 | d _ _ hv =>
 cases hev with
 | ptr _ _ _ ho hp =>
  obtain ⟨b, hb⟩ := hr.heap.blk hk
  have hpx := hp _ b hk hb rfl
  have hO := hr.heap.obj k _ b hk hb
  cases hO with
  | box _ vs ty hwb hl =>
   have hL := hv.cells hone
   have hlen : (a.eval y).cells.size = z.cells.length := by simpa using hL.1
   have hvl : vs.size = cs.length := by simpa using hl.1
   have hrun := run_storeCells_at P b off ty (a.eval y).cells.toList 0 vs w hwb (by simp; omega) (hL.oneCells hone)
   simp only [Nat.add_zero] at hrun
   have e : (execOp a.eval o).run P w = .ok .skip (w.setRow b (vs.toList.take off ++ (a.eval y).cells.toList ++ vs.toList.drop (off + (a.eval y).cells.toList.length)).toArray) := by
    simp only [execOp, hop, Instr.storeAt, hpx, Instr.sureAddr, storeVar, Sem.run_bind, Sem.run_pure, Result.andThen_ok, hsz, hlen]
    simp only [ne_eq, not_true_eq_false, if_false, Sem.run_pure, Result.andThen_ok, hrun]
   unfold Oper.wp
   rw [e, Oper.upon_skip]
   have hst := step_write (x' := .box cs') hr.heap hk rfl hb hwb (vs.toList.take off ++ (a.eval y).cells.toList ++ vs.toList.drop (off + (a.eval y).cells.toList.length)).toArray (.inl ⟨rfl, rfl⟩)
   have hnew : RepL w (imm G.F w H r) cs' (vs.toList.take off ++ (a.eval y).cells.toList ++ vs.toList.drop (off + (a.eval y).cells.toList.length)) := by
    rw [← hcs', hL.1]
    exact ((hl.take off).append hL).append (hl.drop _)
   have hh' := hrel_write hr.heap hk rfl hb _ hst (.box cs' _ ty (setRow_heap w b vs _ ty (0, 0) hwb) (by simpa using hnew.mono hst.imm)) rfl
   rw [hd]
   exact h r _ _ (hr.go hst hh')

/-- .. of one cell. -/
theorem AOps_store1 (k off : Nat) (t : TypeId) (x y : Operand) (cs cs' : List D) (z : D) (hw : wantedE ops E o = some true) (hd : o.dst = none) (hop : o.op = .store t x y) (hx : evalO E x = some (.ptr k off)) (hk : H[k]? = some (.box cs)) (hy : evalO E y = some (.d z))
  (hone : z.one = true) (hsz : ∀ w, (sizeOf t).run P w = .ok 1 w) (hfit : off < cs.length) (hcs' : cs.set off z = cs')
  (h : AOps P n G ops rest E (H.set k (.box cs')) K) : AOps P n G ops (o :: rest) E H K := by
 have hc : z.cells = [z] := by cases z <;> first | rfl | simp [D.one] at hone
 refine AOps_store k off t x y cs [z] cs' z hw hd hop hx hk hy hc (by simpa using hone) (by simpa using hsz) (by simp; omega) ?_ h
 rw [← hcs', List.set_eq_take_append_cons_drop, if_pos hfit]; simp

/-- A store of a reference into a variable of one cell. -/
theorem AOps_storeR (k : Nat) (t : TypeId) (x y : Operand) (q : AObj) (v : AV) (hq : (match q with | .box [_] => true | .ref _ => true | _ => false) = true) (hw : wantedE ops E o = some true) (hd : o.dst = none) (hop : o.op = .store t x y) (hx : evalO E x = some (.ptr k 0)) (hk : H[k]? = some q)
  (hy : evalO E y = some v) (hv : (match v with | .ptr _ _ => true | .vec _ _ => true | .clo _ _ => true | .d (.sl _ _) => true | .d (.pv _ _) => true | .d (.clo _ _) => true | _ => false) = true) (hsz : ∀ w, (sizeOf t).run P w = .ok 1 w)
  (hone : ∀ (r : List Nat) (a : Act) (w : World), Rel n G E H r a w → (a.eval y).oneCell' = true)
  (h : AOps P n G ops rest E (H.set k (.ref v)) K) : AOps P n G ops (o :: rest) E H K := by
 intro r a w hr
 unfold wpList
 rw [wantedE_sound hr hw, if_pos rfl]
 left
 have hev := evalO_sound hr hx
 have hev2 := evalO_sound hr hy
 have h1 := hone r a w hr
 have hc : (a.eval y).cells = #[a.eval y] := by cases hh : a.eval y <;> simp_all [Value.cells, Value.oneCell']
 have hfix : q.fixed = true := by cases q <;> simp_all [AObj.fixed]
 have hlive : q.live = true := by cases q <;> simp_all [AObj.live]
 cases hev with
 | ptr _ _ _ ho hp =>
  obtain ⟨b, hb⟩ := hr.heap.blk hk
  have hpx := hp _ b hk hb hfix
  have hO := hr.heap.obj k _ b hk hb
  have hblk : ∃ u ty, w.heap[b]? = some (.cells #[u] ty (0, 0)) := by
   cases hO with
   | gone => simp [AObj.live] at hlive
   | mp _ _ => simp [AObj.fixed] at hfix
   | ref _ u ty hwb _ => exact ⟨u, ty, hwb⟩
   | vec => simp [AObj.fixed] at hfix
   | box cs vs ty hwb hl =>
    match cs, hq, hl with
    | [c], _, hl =>
     have hs : vs.size = 1 := by simpa using hl.1
     refine ⟨vs[0], ty, ?_⟩
     rw [hwb]
     congr 2
     apply Array.ext (by simp [hs])
     intro i h1 h2
     have : i = 0 := by omega
     subst this; rfl
  obtain ⟨u, ty, hwb⟩ := hblk
  have hrun := run_storeCells_at P b 0 ty [a.eval y] 0 #[u] w hwb (by simp) (by simpa using h1)
  simp at hrun
  have e : (execOp a.eval o).run P w = .ok .skip (w.setRow b #[a.eval y]) := by
   simp [execOp, hop, Instr.storeAt, hpx, Instr.sureAddr, storeVar, hsz, hc, hrun]
  unfold Oper.wp
  rw [e, Oper.upon_skip]
  have hst := step_write (x' := .ref v) hr.heap hk hlive hb hwb #[a.eval y] (.inl ⟨hfix, rfl⟩)
  have hh' := hrel_write hr.heap hk hlive hb _ hst (.ref v _ ty (setRow_heap w b #[u] _ ty (0, 0) hwb) (hev2.step hst)) rfl
  rw [hd]
  exact h r _ _ (hr.go hst hh')
end
end Go.Proofs.YtldgmcghdohmeaaGreat.Ab
