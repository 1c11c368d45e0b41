/- Own library, part 20: blocks that are a call's own and that no reference of the state leads to: rows of a table that is written row by row. No conditions. -/
import Derived.Test.YtldgmcghdohmeaaGreatMg24
set_option linter.unusedVariables false
set_option linter.unusedSimpArgs false
namespace Go.Proofs.YtldgmcghdohmeaaGreat.Ab
open Go Go.RowKit

section
variable {P : Program} {n : Nat} {G : Ctx} {ops : Array Oper} {o : Oper} {rest l : List Oper} {E : Env} {H : List AObj} {K : Env → List AObj → Prop} {w : World} {r : List Nat} {a : Act}

/-- Rows by their blocks. -/
abbrev Rws := List (Nat × Array Value)
def MF (F : Nat → Prop) (M : Rws) (b : Nat) : Prop := F b ∨ b ∈ M.map (·.1)
def GM (G : Ctx) (M : Rws) : Ctx := ⟨MF G.F M, G.w, G.H, G.r⟩

structure MRel (n : Nat) (G : Ctx) (M : Rws) (E : Env) (H : List AObj) (r : List Nat) (a : Act) (w : World) : Prop where
 rel : Rel n (GM G M) E H r a w
 nd : (M.map (·.1)).Nodup
 new : ∀ p ∈ M, G.w.heap.size ≤ p.1
 here : ∀ p ∈ M, ∃ ty, w.heap[p.1]? = some (.cells p.2 ty (0, 0))

theorem MF_nil (F : Nat → Prop) : MF F [] = F := by funext b; simp [MF]
theorem GM_nil (G : Ctx) : GM G [] = G := by unfold GM; rw [MF_nil]

theorem Rel.toM (h : Rel n G E H r a w) : MRel n G [] E H r a w := ⟨by rw [GM_nil]; exact h, by simp, by simp, by simp⟩

theorem RepV.weakF {F F' : Nat → Prop} (hF : ∀ b, F' b → F b) {v : AV} {x : Value} (h : RepV F w H r v x) : RepV F' w H r v x := by
 induction h with
 | d y v h => exact .d y v (h.mono fun b hb => ⟨rfl, hb.1, fun h' => hb.2 (hF b h')⟩)
 | ptr o off v ho h => exact .ptr o off v ho h
 | vec o g v ho h => exact .vec o g v ho h
 | eptr o g i v ho h => exact .eptr o g i v ho h
 | part o g lo n v ho h => exact .part o g lo n v ho h
 | clo f cap vs hl _ ih => exact .clo f cap vs hl ih
 | tup cs vs hl _ ih => exact .tup cs vs hl ih

theorem HRel.weakF {F F' : Nat → Prop} (hF : ∀ b, F' b → F b) (h : HRel F w H r) : HRel F' w H r := by
 have hI : ∀ b, imm F w H r b → w.heap[b]? = w.heap[b]? ∧ imm F' w H r b := fun b hb => ⟨rfl, hb.1, fun h' => hb.2 (hF b h')⟩
 refine ⟨h.len, h.inj, fun o x b h1 h2 => ?_, fun o x b h1 h2 h3 h4 => h.notF o x b h1 h2 h3 (hF b h4), fun b hb => h.fin b (hF b hb)⟩
 have hO := h.obj o x b h1 h2
 cases hO with
 | gone => exact .gone
 | mp v I c hv hb hI0 => exact .mp v I c hv hb hI0
 | box cs vs ty hb hl => exact .box cs vs ty hb (hl.mono hI)
 | ref v z ty hb hl => exact .ref v z ty hb (hl.weakF hF)
 | vec g cs vs ty hb hc hm hl => exact .vec g cs vs ty hb hc hm (hl.mono hI)

/-- What is left behind is nobody's any more. -/
theorem MRel.toRel {M : Rws} (h : MRel n G M E H r a w) : Rel n G E H r a w :=
 ⟨h.rel.size, h.rel.defers, fun t v hv => let ⟨x, hx, hr⟩ := h.rel.env t v hv; ⟨x, hx, hr.weakF fun b hb => .inl hb⟩, h.rel.heap.weakF fun b hb => .inl hb, h.rel.step⟩

/-- The context from here on. -/
def Now (G : Ctx) (M : Rws) (G' : Ctx) (H : List AObj) : Prop := G'.F = MF G.F M ∧ G'.H = H ∧ ∀ p ∈ M, G'.F p.1 ∧ free G'.w G'.H G'.r p.1 ∧ ∃ ty, G'.w.heap[p.1]? = some (.cells p.2 ty (0, 0))

theorem MRel.free {M : Rws} (h : MRel n G M E H r a w) (b : Nat) (hb : MF G.F M b) : free w H r b := ⟨h.rel.heap.fin b hb, fun o x h1 h2 h3 => h.rel.heap.notF o x b h1 h2 h3 hb⟩

theorem MRel.now {M : Rws} (h : MRel n G M E H r a w) : Now G M ⟨MF G.F M, w, H, r⟩ H ∧ Rel n ⟨MF G.F M, w, H, r⟩ E H r a w :=
 ⟨⟨rfl, rfl, fun p hp => ⟨.inr (List.mem_map.2 ⟨p, hp, rfl⟩), h.free p.1 (.inr (List.mem_map.2 ⟨p, hp, rfl⟩)), h.here p hp⟩⟩, h.rel.size, h.rel.defers, h.rel.env, h.rel.heap, Step.refl _ _ _⟩

theorem MRel.later {M : Rws} (h : MRel n G M E H r a w) {E' : Env} {H' : List AObj} {r' : List Nat} {a' : Act} {w' : World} (h' : Rel n ⟨MF G.F M, w, H, r⟩ E' H' r' a' w') : MRel n G M E' H' r' a' w' :=
 ⟨⟨h'.size, h'.defers, h'.env, h'.heap, h.rel.step.trans h'.step⟩, h.nd, h.new, fun p hp => by
  obtain ⟨ty, e⟩ := h.here p hp
  exact ⟨ty, by rw [(h'.step.free p.1 (h.free p.1 (.inr (List.mem_map.2 ⟨p, hp, rfl⟩)))).1]; exact e⟩⟩

/-! ### Codes -/
def MC (P : Program) (n : Nat) (G : Ctx) (c : Code) (E : Env) (H : List AObj) (M : Rws) (Q : Exit → Env → List AObj → Rws → Prop) : Prop :=
 ∀ (r : List Nat) (a : Act) (w : World), MRel n G M E H r a w → c.wp P (fun x a' w' => ∃ E' H' M' r', Q x E' H' M' ∧ MRel n G M' E' H' r' a' w') a w
def MOps (P : Program) (n : Nat) (G : Ctx) (ops : Array Oper) (l : List Oper) (E : Env) (H : List AObj) (M : Rws) (K : Env → List AObj → Rws → Prop) : Prop :=
 ∀ (r : List Nat) (a : Act) (w : World), MRel n G M E H r a w → wpList P ops (fun x a' w' => x = .normal ∧ ∃ E' H' M' r', K E' H' M' ∧ MRel n G M' E' H' r' a' w') l a w

variable {M : Rws} {Q : Exit → Env → List AObj → Rws → Prop} {KM : Env → List AObj → Rws → Prop}

theorem ACode_of_MC {c : Code} {Q : Exit → Env → List AObj → Prop} (h : MC P n G c E H [] (fun x E' H' _ => Q x E' H')) : ACode P n G c E H Q := fun r a w hr =>
 wp_mono (h r a w hr.toM) fun x a' w' ⟨E', H', M', r', q, hr'⟩ => ⟨E', H', r', q, hr'.toRel⟩

theorem MC_mono {c : Code} {Q' : Exit → Env → List AObj → Rws → Prop} (h : MC P n G c E H M Q) (hq : ∀ x E H M, Q x E H M → Q' x E H M) : MC P n G c E H M Q' :=
 fun r a w hr => wp_mono (h r a w hr) fun x a w ⟨E', H', M', r', q, k⟩ => ⟨E', H', M', r', hq _ _ _ _ q, k⟩

def mseqQ (K : Env → List AObj → Rws → Prop) (Q : Exit → Env → List AObj → Rws → Prop) : Exit → Env → List AObj → Rws → Prop
 | .normal, E, H, M => K E H M
 | x, E, H, M => Q x E H M

theorem MC_seq {c d : Code} (h : MC P n G c E H M (mseqQ (fun E' H' M' => MC P n G d E' H' M' Q) Q)) : MC P n G (.seq c d) E H M Q := by
 intro r a w hr
 refine wp_seq (wp_mono (h r a w hr) ?_)
 rintro x a' w' ⟨E', H', M', r', q, hr'⟩
 cases x <;> first | exact q r' a' w' hr' | exact ⟨E', H', M', r', q, hr'⟩

theorem MC_seqJ {c d : Code} (J : Env → List AObj → Rws → Prop) (h1 : MC P n G c E H M (mseqQ J Q)) (h2 : ∀ E' H' M', J E' H' M' → MC P n G d E' H' M' Q) : MC P n G (.seq c d) E H M Q :=
 MC_seq (MC_mono h1 fun x E H M q => by cases x <;> first | exact q | exact h2 _ _ _ q)

theorem MC_skip (h : Q .normal E H M) : MC P n G .skip E H M Q := fun r a w hr => wp_skip ⟨E, H, M, r, h, hr⟩
theorem MC_exit {id : Nat} (h : Q (.exit id) E H M) : MC P n G (.exit id) E H M Q := fun r a w hr => wp_exit ⟨E, H, M, r, h, hr⟩

theorem MC_cond {c : Operand} {x y : Code} (b : Bool) (hc : evalO E c = some (.d (.s (.bool b)))) (ht : b = true → MC P n G x E H M Q) (hf : b = false → MC P n G y E H M Q) :
  MC P n G (.cond c x y) E H M Q := by
 intro r a w hr
 exact wp_cond_split (evalO_s hr.rel hc) (fun h => ht h r a w hr) (fun h => hf h r a w hr)

def mblockQ (id : Nat) (Q : Exit → Env → List AObj → Rws → Prop) : Exit → Env → List AObj → Rws → Prop
 | .exit id', E, H, M => bif Nat.beq id' id then Q .normal E H M else Q (.exit id') E H M
 | x, E, H, M => Q x E H M

theorem MC_block {id : Nat} {c : Code} (h : MC P n G c E H M (mblockQ id Q)) : MC P n G (.block id c) E H M Q := by
 intro r a w hr
 refine wp_block (wp_mono (h r a w hr) ?_)
 rintro x a' w' ⟨E', H', M', r', q, hr'⟩
 cases x with
 | exit id' =>
  simp only [Exit.inBlock]
  simp only [mblockQ] at q
  by_cases e : id' = id
  ·subst e
   rw [Nat.beq_refl, cond_true] at q
   rw [if_pos rfl]
   exact ⟨E', H', M', r', q, hr'⟩
  ·have : Nat.beq id' id = false := Bool.eq_false_iff.2 fun h' => e (Nat.eq_of_beq_eq_true h')
   rw [this, cond_false] at q
   rw [if_neg e]
   exact ⟨E', H', M', r', q, hr'⟩
 | _ => exact ⟨E', H', M', r', q, hr'⟩

theorem MC_loop {c : Code} (I : Nat → Env → List AObj → Rws → Prop) (k : Nat) (h0 : I k E H M)
  (round : ∀ k E H M, I k E H M → MC P n G c E H M (mseqQ (fun E' H' M' => ∃ k', k' < k ∧ I k' E' H' M') Q)) : MC P n G (.loop c) E H M Q := by
 intro r a w hr b kk cs
 have key : ∀ k E H M r a w, I k E H M → MRel n G M E H r a w →
   ∃ x a' w', (∃ E' H' M' r', Q x E' H' M' ∧ MRel n G M' E' H' r' a' w') ∧ Arrives P (lone (b.at a (.code c :: .inLoop c :: kk)) cs w) b kk cs x a' w' := by
  intro k
  induction k using Nat.strongRecOn with
  | _ k ih =>
   intro E H M r a w hI hr
   obtain ⟨x, a1, w1, ⟨E1, H1, M1, r1, q, hr1⟩, harr⟩ := round k E H M hI r a w hr b (.inLoop c :: kk) cs
   cases x with
   | normal =>
    obtain ⟨k', hlt, hI'⟩ := q
    obtain ⟨x2, a2, w2, hq2, harr2⟩ := ih k' hlt E1 H1 M1 r1 a1 w1 hI' hr1
    exact ⟨x2, a2, w2, hq2, .of_steps (Steps.trans harr (.one step_inLoop)) harr2⟩
   | exit id => exact ⟨_, a1, w1, ⟨E1, H1, M1, r1, q, hr1⟩, .pass (x := .inLoop c) rfl (fun _ _ => .inl (by simp)) harr⟩
   | goto l => exact ⟨_, a1, w1, ⟨E1, H1, M1, r1, q, hr1⟩, .pass (x := .inLoop c) rfl (fun _ _ => .inl (by simp)) harr⟩
   | ret => exact ⟨_, a1, w1, ⟨E1, H1, M1, r1, q, hr1⟩, .pass (x := .inLoop c) rfl (fun _ _ => .inl (by simp)) harr⟩
   | panic ch => exact ⟨_, a1, w1, ⟨E1, H1, M1, r1, q, hr1⟩, .pass (x := .inLoop c) rfl (fun _ _ => .inl (by simp)) harr⟩
   | outgrown => exact ⟨_, a1, w1, ⟨E1, H1, M1, r1, q, hr1⟩, .pass (x := .inLoop c) rfl (fun _ _ => .inl (by simp)) harr⟩
 obtain ⟨x, a', w', hq, harr⟩ := key k E H M r a w h0 hr
 exact ⟨x, a', w', hq, .of_steps (.one step_loop) harr⟩

theorem MC_weak {c : Code} {E0 : Env} {H0 : List AObj} (hw : Weak n (GM G M) E H E0 H0) (h : MC P n G c E0 H0 M Q) : MC P n G c E H M Q :=
 fun r a w hr => let ⟨r0, hr0⟩ := hw r a w hr.rel; h r0 a w ⟨hr0, hr.nd, hr.new, hr.here⟩
/-! ### Rows of operations -/
theorem MC_region {id : Nat} {l : List Oper} (h : MOps P n G l.toArray l E H M (fun E' H' M' => Q .normal E' H' M')) : MC P n G (.region id l.toArray false) E H M Q := by
 intro r a w hr
 refine wp_mono (wp_region_lit (h r a w hr)) ?_
 rintro x a' w' ⟨rfl, E', H', M', r', k, hr'⟩
 exact ⟨E', H', M', r', k, hr'⟩

theorem MOps_nil (h : KM E H M) : MOps P n G ops [] E H M KM := fun r a w hr => ⟨rfl, E, H, M, r, h, hr⟩

theorem wp_both {K K' : Act → World → Prop} {Q Q' : Exit → Act → World → Prop} (h : ∀ a w, K a w → K' a w) (hq : ∀ x a w, Q x a w → Q' x a w) (hh : o.wp P a w K Q) : o.wp P a w K' Q' := by
 unfold Oper.wp at *
 generalize (execOp a.eval o).run P w = r at *
 cases r with
 | ok n w' =>
  cases n <;> simp only [Oper.upon] at hh ⊢ <;>
   first
    | exact h _ _ hh
    | exact Calls.mono hh (fun e w'' he => by cases e <;> first | exact h _ _ he | exact hq _ _ _ he | (obtain ⟨a1, w1, h1⟩ := he; exact ⟨a1, w1, hq _ _ _ h1⟩))
    | exact Rows.mono hh (fun _ _ he => h _ _ he)
 | halt x w' => cases x <;> simp only [Oper.upon] at hh ⊢ <;> first | exact hq _ _ _ hh | exact hh

/-- An operation that doesn't touch the rows. -/
theorem MOps_step {K1 : Env → List AObj → Prop} (h1 : ∀ G', Now G M G' H → AOps P n G' ops [o] E H K1) (h2 : ∀ E' H', K1 E' H' → MOps P n G ops rest E' H' M KM) : MOps P n G ops (o :: rest) E H M KM := by
 intro r a w hr
 obtain ⟨e1, e2⟩ := hr.now
 have h := h1 _ e1 r a w e2
 unfold wpList at h ⊢
 have key : ∀ a' w', (∃ E' H' r', K1 E' H' ∧ Rel n ⟨MF G.F M, w, H, r⟩ E' H' r' a' w') → wpList P ops (fun x a' w' => x = .normal ∧ ∃ E' H' M' r', KM E' H' M' ∧ MRel n G M' E' H' r' a' w') rest a' w' := fun a' w' ⟨E', H', r', k, hr'⟩ => h2 E' H' k r' a' w' (hr.later hr')
 split
 ·rename_i hw
  rw [if_pos hw] at h
  rcases h with h | ⟨_, a1, w1, hno, _⟩
  ·left
   -- the exits are none
   have hn : o.wp P a w (fun a' w' => ∃ E' H' r', K1 E' H' ∧ Rel n ⟨MF G.F M, w, H, r⟩ E' H' r' a' w') (fun x a' w' => x = .normal ∧ False) := by
    unfold Oper.wp at h ⊢
    generalize (execOp a.eval o).run P w = res at *
    cases res with
    | ok nx w' =>
     cases nx <;> simp only [Oper.upon] at h ⊢ <;>
      first
       | exact h.2
       | exact Calls.mono h (fun e w'' he => by cases e <;> first | exact he.2 | (exact absurd he.1 (by simp)) | (obtain ⟨a1, w1, h1, _⟩ := he; cases h1))
       | exact Rows.mono h (fun _ _ he => he.2)
    | halt x w' => cases x <;> simp only [Oper.upon] at h ⊢ <;> first | (exact absurd h.1 (by simp)) | exact h
   exact wp_both key (fun x a' w' hx => hx.2.elim) hn
  ·cases hno
 ·rename_i hw
  rw [if_neg hw] at h
  exact key _ _ h.2

theorem MOps_q (d : Nat) (v : AV) (hw : wantedE ops E o = some true) (hd : o.dst = some d) (hlt : Nat.ble (d + 1) n = true) (hq : ∀ G', Now G M G' H → QOp P n G' o E H v)
  (h : MOps P n G ops rest ((d, v) :: E) H M KM) : MOps P n G ops (o :: rest) E H M KM :=
 MOps_step (K1 := fun E' H' => E' = (d, v) :: E ∧ H' = H) (fun G' hn => AOps_q d v hw hd hlt (hq G' hn) (AOps_nil ⟨rfl, rfl⟩)) (fun E' H' ⟨e1, e2⟩ => by subst e1 e2; exact h)

theorem MOps_weak {E0 : Env} {H0 : List AObj} (hw : Weak n (GM G M) E H E0 H0) (h : MOps P n G ops l E0 H0 M KM) : MOps P n G ops l E H M KM :=
 fun r a w hr => let ⟨r0, hr0⟩ := hw r a w hr.rel; h r0 a w ⟨hr0, hr.nd, hr.new, hr.here⟩

/-! ### A slice becomes a row -/
/-- References seen anew where objects and forbidden blocks have turned. -/
theorem RepV.moveF {F F' : Nat → Prop} {H' : List AObj} {r' : List Nat} (hlen : H.length ≤ H'.length) (himm : ∀ b, imm F w H r b → imm F' w H' r' b)
  (hf : ∀ (o : Nat) (x : AObj) (b : Nat), o < H.length → H'[o]? = some x → r'[o]? = some b → x.fixed = true → ∃ y, H[o]? = some y ∧ r[o]? = some b ∧ y.fixed = true)
  (hv : ∀ (o g : Nat) (cs : List D) (b : Nat), o < H.length → H'[o]? = some (.vec g cs) → r'[o]? = some b → H[o]? = some (.vec g cs) ∧ r[o]? = some b)
  {v : AV} {x : Value} (h : RepV F w H r v x) : RepV F' w H' r' v x := by
 induction h with
 | d y v h => exact .d y v (h.mono fun b hb => ⟨rfl, himm b hb⟩)
 | ptr o off v ho h =>
  refine .ptr o off v (by omega) fun x b h1 h2 h3 => ?_
  obtain ⟨y, a1, a2, a3⟩ := hf o x b ho h1 h2 h3
  exact h y b a1 a2 a3
 | vec o g v ho h =>
  refine .vec o g v (by omega) fun g' cs b h1 h2 => ?_
  obtain ⟨a1, a2⟩ := hv o g' cs b ho h1 h2
  exact h g' cs b a1 a2
 | eptr o g i v ho h =>
  refine .eptr o g i v (by omega) fun g' cs b h1 h2 => ?_
  obtain ⟨a1, a2⟩ := hv o g' cs b ho h1 h2
  exact h g' cs b a1 a2
 | part o g lo n v ho h =>
  refine .part o g lo n v (by omega) fun g' cs b h1 h2 => ?_
  obtain ⟨a1, a2⟩ := hv o g' cs b ho h1 h2
  exact h g' cs b a1 a2
 | clo f cap vs hl _ ih => exact .clo f cap vs hl ih
 | tup cs vs hl _ ih => exact .tup cs vs hl ih

theorem RepO.moveF {F F' : Nat → Prop} {H' : List AObj} {r' : List Nat} (hlen : H.length ≤ H'.length) (himm : ∀ b, imm F w H r b → imm F' w H' r' b)
  (hf : ∀ (o : Nat) (x : AObj) (b : Nat), o < H.length → H'[o]? = some x → r'[o]? = some b → x.fixed = true → ∃ y, H[o]? = some y ∧ r[o]? = some b ∧ y.fixed = true)
  (hv : ∀ (o g : Nat) (cs : List D) (b : Nat), o < H.length → H'[o]? = some (.vec g cs) → r'[o]? = some b → H[o]? = some (.vec g cs) ∧ r[o]? = some b)
  {b : Nat} {x : AObj} (h : RepO F w H r b x) : RepO F' w H' r' b x := by
 have hI : ∀ b, imm F w H r b → w.heap[b]? = w.heap[b]? ∧ imm F' w H' r' b := fun b hb => ⟨rfl, himm b hb⟩
 cases h with
 | gone => exact .gone
 | mp v I c hv hb hI0 => exact .mp v I c hv hb hI0
 | box cs vs ty hb hl => exact .box cs vs ty hb (hl.mono hI)
 | ref v z ty hb hl => exact .ref v z ty hb (hl.moveF hlen himm hf hv)
 | vec g cs vs ty hb hc hm hl => exact .vec g cs vs ty hb hc hm (hl.mono hI)
theorem own_new (hG : G.H = []) (hr : Rel n G E H r a w) {o b : Nat} {x : AObj} (ho : H[o]? = some x) (hl : x.live = true) (hb : r[o]? = some b) : G.w.heap.size ≤ b := by
 rcases Nat.lt_or_ge b G.w.heap.size with hlt | hge
 ·have := (hr.step.free b ⟨hlt, fun o' x' h1 => by rw [hG] at h1; simp at h1⟩).2
  exact absurd hb (this.2 o x ho hl)
 ·exact hge

/-- An owned slice of whole numbers is put among the rows: its slot holds the slice's header as data. -/
theorem MRel.abandon (hG : G.H = []) {t o g : Nat} {zs : List Value} (he : E.get t = some (.vec o g)) (hH : H[o]? = some (.vec g (zs.map D.s))) (hr : MRel n G M E H r a w) :
  ∃ b vs, b ∉ M.map (·.1) ∧ zs.length ≤ vs.size ∧ vs.size ≤ maxLen ∧ vs.toList.take zs.length = zs ∧ MRel n G ((b, vs) :: M) ((t, .d (.s (.slice (some ⟨b, 0, none⟩) zs.length vs.size))) :: E) (H.set o .gone) r a w := by
 obtain ⟨b, hb⟩ := hr.rel.heap.blk hH
 obtain ⟨x, hx, hv⟩ := hr.rel.env t _ he
 have hO := hr.rel.heap.obj o _ b hH hb
 cases hO with
 | vec _ _ vs ty hb' hc hm hl =>
  rw [List.length_map] at hc hl
  have hzs := RepL.of_map_s hl
  have hbM : b ∉ M.map (·.1) := fun h => hr.rel.heap.notF o _ b hH rfl hb (.inr h)
  have hst : Step w H r w (H.set o .gone) r := step_gone o
  have hlen : H.length ≤ (H.set o .gone).length := by simp
  have himm : ∀ c, imm (MF G.F M) w H r c → imm (MF G.F ((b, vs) :: M)) w (H.set o .gone) r c := fun c hc' => by
   refine ⟨(hst.free c hc'.1).2, ?_⟩
   rintro (hF | hF)
   ·exact hc'.2 (.inl hF)
   ·rw [List.map_cons, List.mem_cons] at hF
    rcases hF with rfl | hF
    ·exact hc'.1.2 o _ hH rfl hb
    ·exact hc'.2 (.inr hF)
  have hf : ∀ (o1 : Nat) (x : AObj) (c : Nat), o1 < H.length → (H.set o .gone)[o1]? = some x → r[o1]? = some c → x.fixed = true → ∃ y, H[o1]? = some y ∧ r[o1]? = some c ∧ y.fixed = true := fun o1 x c _ h1 h2 h3 => by
   rcases get_gone h1 with rfl | ⟨_, k1⟩
   ·simp [AObj.fixed] at h3
   ·exact ⟨x, k1, h2, h3⟩
  have hvv : ∀ (o1 g1 : Nat) (cs1 : List D) (c : Nat), o1 < H.length → (H.set o .gone)[o1]? = some (.vec g1 cs1) → r[o1]? = some c → H[o1]? = some (.vec g1 cs1) ∧ r[o1]? = some c := fun o1 g1 cs1 c _ h1 h2 => by
   rcases get_gone h1 with h | ⟨_, k1⟩
   ·cases h
   ·exact ⟨k1, h2⟩
  refine ⟨b, vs, hbM, hc, hm, hzs, ⟨⟨hr.rel.size, hr.rel.defers, fun k u hu => ?_, ?_, hr.rel.step.trans hst⟩, ?_, ?_, ?_⟩⟩
  ·by_cases e : t = k
   ·subst e
    rw [Env.get_cons_self] at hu
    cases hu
    refine ⟨x, hx, ?_⟩
    cases hv with
    | vec _ _ _ ho hp =>
     obtain ⟨cap, vs', ty', e1, e2, e3⟩ := (hp g _ b hH hb).2 rfl
     rw [hb'] at e2
     cases e2
     subst e1
     rw [List.length_map, e3]
     exact .d _ _ (.s _)
   ·rw [Env.get_cons_ne _ E e] at hu
    obtain ⟨y, hy, hv'⟩ := hr.rel.env k u hu
    exact ⟨y, hy, hv'.moveF hlen himm hf hvv⟩
  ·refine ⟨by simp [hr.rel.heap.len], fun o1 o2 x x' c h1 l1 h2 l2 e1 e2 => ?_, fun o1 x c h1 h2 => ?_, fun o1 x c h1 h2 h3 => ?_, fun c hc' => ?_⟩
   ·rcases get_gone h1 with rfl | ⟨_, k1⟩
    ·simp [AObj.live] at l1
    ·rcases get_gone h2 with rfl | ⟨_, k2⟩
     ·simp [AObj.live] at l2
     ·exact hr.rel.heap.inj o1 o2 x x' c k1 l1 k2 l2 e1 e2
   ·rcases get_gone h1 with rfl | ⟨_, k1⟩
    ·exact .gone
    ·exact (hr.rel.heap.obj o1 x c k1 h2).moveF hlen himm hf hvv
   ·rcases get_gone h1 with rfl | ⟨hne, k1⟩
    ·simp [AObj.live] at h2
    ·rintro (hF | hF)
     ·exact hr.rel.heap.notF o1 x c k1 h2 h3 (.inl hF)
     ·rw [List.map_cons, List.mem_cons] at hF
      rcases hF with rfl | hF
      ·exact hne (hr.rel.heap.inj o o1 _ x _ hH rfl k1 h2 hb h3)
      ·exact hr.rel.heap.notF o1 x c k1 h2 h3 (.inr hF)
   ·rcases hc' with hF | hF
    ·exact hr.rel.heap.fin c (.inl hF)
    ·rw [List.map_cons, List.mem_cons] at hF
     rcases hF with rfl | hF
     ·exact (Array.getElem?_eq_some_iff.1 hb').1
     ·exact hr.rel.heap.fin c (.inr hF)
  ·rw [List.map_cons, List.nodup_cons]; exact ⟨hbM, hr.nd⟩
  ·intro p hp
   rcases List.mem_cons.1 hp with rfl | hp
   ·exact own_new (G := GM G M) hG hr.rel hH rfl hb
   ·exact hr.new p hp
  ·intro p hp
   rcases List.mem_cons.1 hp with rfl | hp
   ·exact ⟨ty, hb'⟩
   ·exact hr.here p hp

theorem MOps_abandon (hG : G.H = []) (t o g : Nat) (zs : List Value) (he : E.get t = some (.vec o g)) (hH : H[o]? = some (.vec g (zs.map D.s)))
  (h : ∀ b vs, b ∉ M.map (·.1) → zs.length ≤ vs.size → vs.size ≤ maxLen → vs.toList.take zs.length = zs → MOps P n G ops l ((t, .d (.s (.slice (some ⟨b, 0, none⟩) zs.length vs.size))) :: E) (H.set o .gone) ((b, vs) :: M) KM) : MOps P n G ops l E H M KM := fun r a w hr => by
 obtain ⟨b, vs, h1, h2, h3, h4, h5⟩ := hr.abandon hG he hH
 exact h b vs h1 h2 h3 h4 r a w h5

/-- A function's contract out of a walk of its body. -/
theorem AC_of_bodyN (dr : Bool) {f : FuncId} {fn : Func} {c : Code} {args : List AV} {rvs : List ResultVar} {Q : List AV → List AObj → Prop} (hf : P.funcs[f]? = some fn) (hb : fn.body = some c) (hnt : fn.ntmps = n) (hres : fn.results = rvs.toArray)
  (hn : Nat.ble args.length n = true) (h : ∀ G : Ctx, G.H = H → (∀ b, G.F b → b < G.w.heap.size) → ACode P n G c (argEnv 0 args) H (retQ P n G H.length dr rvs Q)) : AC P f args H Q := by
 intro F w r xs hh hxs
 refine calls_of_wp hf hb ?_
 have hn' := Nat.le_of_ble_eq_true hn
 have hr : Rel n ⟨F, w, H, r⟩ (argEnv 0 args) H r { tmps := xs ++ Array.replicate (fn.ntmps - xs.size) undef, defers := [] } w := by
  refine ⟨by simp [hnt, hxs.1]; omega, rfl, fun t v hv => ?_, hh, Step.refl _ _ _⟩
  obtain ⟨_, h2⟩ := argEnv_get args 0 t v hv
  simp at h2
  obtain ⟨ht, _⟩ := List.getElem?_eq_some_iff.1 h2
  have ht' : t < xs.size := by rw [hxs.1]; exact ht
  exact ⟨xs[t], by simp [Array.getElem?_append, ht'], hxs.2 t v _ h2 (Array.getElem?_eq_getElem ht')⟩
 refine wp_mono (h ⟨F, w, H, r⟩ rfl hh.fin r _ w hr) ?_
 have key : ∀ (a' : Act) (w' : World) (E' : Env) (H' : List AObj) (r' : List Nat), RetOK P n ⟨F, w, H, r⟩ H.length dr rvs Q E' H' → Rel n ⟨F, w, H, r⟩ E' H' r' a' w' →
   a'.defers = [] ∧ ∃ v, (results fn a'.tmps).run P w' = .ok v w' ∧ ∃ res H'' r'' x, Ending.returned v = .returned x ∧ Q res H'' ∧ HRel F w' H'' r'' ∧ RepRes F w' H'' r'' res x ∧ Step w H r w' H'' r'' := by
  rintro a' w' E' H' r' ⟨vals, res, more, H'', h1, h2b, h3, h4, h5⟩ hr'
  have h2 := nodupB_sound _ h2b
  obtain ⟨x, hx, hrx⟩ := run_results hres h1 hr'
  have hseen := seen_lent rfl hr'.heap h2 h3
  refine ⟨hr'.defers, x, hx, _, H'', _, x, rfl, h5, hrel_lent rfl hr'.heap h2 h3, ?_, step_select hr'.step hr'.heap h3⟩
  suffices hh : RepRes F w' H'' (selBlocks r' (List.range H.length ++ more)) res x by
   cases dr with
   | false => exact hh
   | true => exact hh.drop
  obtain ⟨hl, hg⟩ := viewA_get h4
  match vals, res, hl, hg, hrx with
  | [v], [u], _, hg, hrx =>
   obtain ⟨v', e1, e2⟩ := hg 0 u rfl
   simp at e1; subst e1
   exact hseen.view hrx e2
  | [], [], _, hg, ⟨ys, e, k1, k2⟩ => exact ⟨ys, e, k1, by simp⟩
  | v1 :: v2 :: vs, u1 :: u2 :: us, hl, hg, ⟨ys, e, k1, k2⟩ =>
   refine ⟨ys, e, by rw [k1]; exact hl.symm, fun i c z hc hz => ?_⟩
   obtain ⟨v', e1, e2⟩ := hg i c hc
   exact hseen.view (k2 i v' z e1 hz) e2
 rintro x a' w' ⟨E', H', r', q, hr'⟩
 cases x with
 | normal => obtain ⟨E2, H2, hw, q⟩ := q; obtain ⟨r2, hr2⟩ := hw r' a' w' hr'; exact key a' w' E2 H2 r2 q hr2
 | ret => obtain ⟨E2, H2, hw, q⟩ := q; obtain ⟨r2, hr2⟩ := hw r' a' w' hr'; exact key a' w' E2 H2 r2 q hr2
 | exit id => exact q.elim
 | goto l => exact q.elim
 | panic ch => exact q.elim
 | outgrown => exact q.elim

end
end Go.Proofs.YtldgmcghdohmeaaGreat.Ab
