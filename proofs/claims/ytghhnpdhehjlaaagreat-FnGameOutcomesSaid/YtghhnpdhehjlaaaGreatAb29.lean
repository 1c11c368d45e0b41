/- Own library, part 29: maps that a call has made: an object that says what the block is good for; look up, store, make. No conditions. -/
import Derived.Test.YtghhnpdhehjlaaaGreatAb27
import Derived.Maps.OwnSet
import Derived.DeepKeys5
import Derived.Carry
set_option linter.unusedVariables false
set_option linter.unusedSimpArgs false
namespace Go.Proofs.YtghhnpdhehjlaaaGreat.Ab
open Go Go.RowKit

/-- Keys. -/
inductive MK where
  | i (x : Int)
  | l (xs : List Int)
  | s (b : ByteArray)

def MK.beq : MK → MK → Bool
  | .i x, .i y => decide (x = y)
  | .l x, .l y => decide (x = y)
  | .s x, .s y => decide (x = y)
  | _, _ => false
theorem MK.beq_iff (a b : MK) : a.beq b = true ↔ a = b := by
  cases a <;> cases b <;> simp [MK.beq]

def MK.enc : MK → Value
  | .i x => .int .i64 x
  | .l xs => .agg (xs.map (Value.int .i64)).toArray
  | .s b => .string b

theorem MK.enc_inj {a b : MK} (h : a.enc = b.enc) : a = b := by
  cases a <;> cases b <;> simp [MK.enc] at h
  · rw [h]
  · rename_i xs ys
    have : xs = ys := by
      induction xs generalizing ys with
      | nil => cases ys <;> simp at h; rfl
      | cons x xs ih =>
        cases ys with
        | nil => simp at h
        | cons y ys => simp at h; rw [h.1, ih ys h.2]
    rw [this]
  · rw [h]

/-- What a map holds; the newest first. -/
def lookM : List (MK × Int) → MK → Option Int
  | [], _ => none
  | (k, x) :: M, m => bif k.beq m then some x else lookM M m

def okI (x : Int) : Bool := decide (-9223372036854775808 ≤ x) && decide (x < 9223372036854775808)
def okK : MK → Bool
  | .i x => okI x
  | .l xs => xs.all okI
  | .s b => decide (b.size ≤ 1099511627776)

theorem okI_wf {x : Int} (h : okI x = true) : (Lit.int .i64 x).wf = true := by
  simp [okI] at h
  exact WalkArith.wf_i64 (by omega)

theorem keyS {P : Program} {k : TypeId} (hk : P.underlying k = some .string) {b : ByteArray} (h : okK (.s b) = true) : ∃ kl, keyOf P k (MK.s b).enc = some kl :=
  ⟨_, WideMaps.keyOf_string_mk hk (by simp [okK] at h; unfold maxLen; omega)⟩

/-- What a map's block is good for. -/
def mapI (P : Program) (kt et : TypeId) (M : List (MK × Int)) (c : Obj) : Prop :=
  ∃ (es : Array MapEntry) (clock : Nat) (D : DataW Unit), c = .map es clock ∧
    (∀ (w : World) (b : Nat), w.heap[b]? = some (.map es clock) → w.ownsMap P kt (plainElem P et) b M.length D) ∧
    (∀ (m : MK) (kl : Lit), keyOf P kt m.enc = some kl → (lookM M m = none → Maps.has D kl = false) ∧ (∀ x, lookM M m = some x → Maps.has D kl = true ∧ D.atKey kl (.lit (.int .i64 0)) = .lit (.int .i64 x)))

section
variable {P : Program} {kt et t : TypeId} {M : List (MK × Int)} {c : Obj} {w : World} {b : Nat}

theorem mapI_made : mapI P kt et [] (.map #[] 0) := by
  refine ⟨#[], 0, .map [], rfl, fun w b h => ⟨#[], 0, h, ⟨by simp, MapKept.stamped_empty 0, by simp⟩, Nat.le_refl _, rfl⟩, fun m kl _ => ⟨fun _ => rfl, fun x hx => by simp [lookM] at hx⟩⟩

theorem mapI_look (K : Maps.Keyed P kt) (ht : P.underlying t = some (.map kt et)) (he : P.underlying et = some (.int .i64)) (hz : ∀ w, (zeroValue et).run P w = .ok (.int .i64 0) w)
    (h : mapI P kt et M c) (hb : w.heap[b]? = some c) {m : MK} {kl : Lit} (hkey : keyOf P kt m.enc = some kl) :
    (Instr.lookup t (.map (some b)) m.enc true).run P w = .ok (.tuple #[.int .i64 ((lookM M m).getD 0), .bool (lookM M m).isSome]) w := by
  obtain ⟨es, clock, D, rfl, hown, hat⟩ := h
  obtain ⟨v, ps, hrun, hv⟩ := (hown w b hb).look_ok K ht (hz w) (zd := .lit (.int .i64 0)) (zp := []) (plainElem_int he (by decide)) hkey
  obtain ⟨a, rfl, h1, _⟩ := plainElem_int_inv he hv
  obtain ⟨h2, h3⟩ := hat m kl hkey
  rw [hrun]
  cases hm : lookM M m with
  | none =>
    rw [Maps.atKey_of_not_has (h2 hm)] at h1
    simp at h1
    rw [h2 hm, ← h1.1]; rfl
  | some x =>
    obtain ⟨h4, h5⟩ := h3 x hm
    rw [h5] at h1
    simp at h1
    rw [h4, ← h1.1]; rfl

theorem mapI_put (K : Maps.Keyed P kt) (ht : P.underlying t = some (.map kt et)) (he : P.underlying et = some (.int .i64))
    (h : mapI P kt et M c) (hb : w.heap[b]? = some c) {m : MK} {kl : Lit} (hkey : keyOf P kt m.enc = some kl) {x : Int} (hx : okI x = true) (hn : M.length < 4611686018427387904) :
    ∃ w' c', (Instr.mapUpdate t (.map (some b)) m.enc (.int .i64 x)).run P w = .ok () w' ∧ w.grownBy w' (some b) ∧ w'.heap[b]? = some c' ∧ mapI P kt et ((m, x) :: M) c' := by
  obtain ⟨es, clock, D, rfl, hown, hat⟩ := h
  have h0 := hown w b hb
  obtain ⟨w', hrun, hown', hg⟩ := h0.update K ht (by unfold maxLen; omega) hkey (plainElem_int he (okI_wf hx))
  have hD : Maps.IsMap D := h0.isMap
  obtain ⟨es', clock', hb', F', hs', hD'⟩ := hown'
  refine ⟨w', _, hrun, hg, hb', es', clock', _, rfl, fun w2 b2 h2 => ⟨es', clock', h2, F', by simpa using hs', hD'⟩, fun m' kl' hk' => ?_⟩
  by_cases e : m = m'
  · subst e
    rw [hkey] at hk'; cases hk'
    have e1 : lookM ((m, x) :: M) m = some x := by simp [lookM, (MK.beq_iff m m).2 rfl]
    refine ⟨fun h => by simp [e1] at h, fun y hy => ?_⟩
    rw [e1] at hy
    obtain rfl := Option.some.inj hy
    exact ⟨Maps.has_put_same hD (K.key hkey) _, Maps.atKey_put_same hD (K.key hkey) _ _⟩
  · have hne : kl' ≠ kl := fun e' => e (MK.enc_inj (K.inj (hkey) (by rw [← e']; exact hk')))
    have e1 : lookM ((m, x) :: M) m' = lookM M m' := by
      have : m.beq m' = false := Bool.eq_false_iff.2 fun h => e ((MK.beq_iff _ _).1 h)
      simp [lookM, this]
    rw [e1, Maps.has_put_other hne, Maps.atKey_put_other hne]
    exact hat m' kl' hk'
end

section
variable {F : Nat → Prop} {w w1 : World} {H : List AObj} {r : List Nat}

/-- A map's block is written. -/
theorem step_mp {k b : Nat} {v : Value} {I I' : Obj → Prop} (hh : HRel F w H r) (hk : H[k]? = some (.mp v I)) (hb : r[k]? = some b) (hg : w.grownBy w1 (some b)) : Step w H r w1 (H.set k (.mp v I')) r := by
  have hkl := (List.getElem?_eq_some_iff.1 hk).1
  refine ⟨hg.os, hg.tape, hg.output, hg.size, fun c hc => ?_, by simp, fun o y c ho h1 h2 h3 => ?_, fun o g' cs' c ho h1 h2 => ?_⟩
  · have hne : c ≠ b := fun e => hc.2 k _ hk rfl (by rw [e]; exact hb)
    refine ⟨hg.block c hc.1 (fun e => hne (Option.some.inj e)), Nat.lt_of_lt_of_le hc.1 hg.size, fun o y h1 h2 => ?_⟩
    rw [List.getElem?_set] at h1
    by_cases e : k = o
    · subst e; intro h; rw [hb] at h; exact hne (Option.some.inj h).symm
    · rw [if_neg e] at h1; exact hc.2 o y h1 h2
  · rw [List.getElem?_set] at h1
    by_cases e : k = o
    · subst e
      rw [if_pos rfl, if_pos hkl] at h1
      cases h1
      simp [AObj.fixed] at h3
    · rw [if_neg e] at h1; exact ⟨y, h1, h2, h3⟩
  · rw [List.getElem?_set] at h1
    by_cases e : k = o
    · subst e
      rw [if_pos rfl, if_pos hkl] at h1
      cases h1
    · rw [if_neg e] at h1
      refine ⟨g', cs', c, h1, h2, .inr ⟨rfl, rfl, rfl, fun us tu h => ⟨us, tu, ?_, rfl⟩⟩⟩
      have hlt := (hh.obj o _ c h1 h2).lt rfl
      rw [hg.block c hlt (fun e' => e (hh.inj k o _ _ b hk rfl h1 rfl hb (by rw [← Option.some.inj e']; exact h2)))]; exact h

theorem hrel_mp {k b : Nat} {v : Value} {I I' : Obj → Prop} (hh : HRel F w H r) (hk : H[k]? = some (.mp v I)) (hb : r[k]? = some b) (hg : w.grownBy w1 (some b)) {c' : Obj} (hc : w1.heap[b]? = some c') (hI : I' c') : HRel F w1 (H.set k (.mp v I')) r := by
  have hkl := (List.getElem?_eq_some_iff.1 hk).1
  have hst := step_mp (I' := I') hh hk hb hg
  have hv : v = .map (some b) := by
    have := hh.obj k _ b hk hb
    cases this with | mp _ _ _ hv _ _ => exact hv
  have at_ : ∀ (o : Nat) (y : AObj), (H.set k (.mp v I'))[o]? = some y → (k = o ∧ y = .mp v I') ∨ (k ≠ o ∧ H[o]? = some y) := by
    intro o y h1
    rw [List.getElem?_set] at h1
    by_cases e : k = o
    · subst e; rw [if_pos rfl, if_pos hkl] at h1; exact .inl ⟨rfl, (Option.some.inj h1).symm⟩
    · rw [if_neg e] at h1; exact .inr ⟨e, h1⟩
  refine ⟨by simp [hh.len], ?_, ?_, ?_, fun c h => Nat.lt_of_lt_of_le (hh.fin c h) hg.size⟩
  · intro o o' y y' c h1 l1 h2 l2 h3 h4
    rcases at_ o y h1 with ⟨a1, a2⟩ | ⟨a1, a2⟩ <;> rcases at_ o' y' h2 with ⟨c1, c2⟩ | ⟨c1, c2⟩
    · omega
    · subst a1; exact hh.inj k o' _ y' c hk rfl c2 l2 h3 h4
    · subst c1; exact hh.inj o k y _ c a2 l1 hk rfl h3 h4
    · exact hh.inj o o' y y' c a2 l1 c2 l2 h3 h4
  · intro o y c h1 h2
    rcases at_ o y h1 with ⟨a1, a2⟩ | ⟨a1, a2⟩
    · subst a1; subst a2; rw [hb] at h2; cases h2; exact .mp v I' c' hv hc hI
    · exact (hh.obj o y c a2 h2).step hst fun hl' => hg.block c ((hh.obj o y c a2 h2).lt hl') (fun e => a1 (hh.inj k o _ y b hk rfl a2 hl' hb (by rw [← Option.some.inj e]; exact h2)))
  · intro o y c h1 l1 h2
    rcases at_ o y h1 with ⟨a1, a2⟩ | ⟨a1, a2⟩
    · subst a1; exact hh.notF k _ c hk rfl h2
    · exact hh.notF o y c a2 l1 h2
end

section
variable {P : Program} {kt et t : TypeId} {n : Nat} {G : Ctx} {E : Env} {H : List AObj} {ops : Array Oper} {rest : List Oper} {o : Oper} {K : Env → List AObj → Prop}

/-- A key as data. -/
def isKey (d : D) (m : MK) : Prop := ∀ (w : World) (I : Nat → Prop) (v : Value), RepD w I d v → v = m.enc
theorem isKey_s (b : ByteArray) : isKey (.s (.string b)) (.s b) := fun w I v h => by cases h; rfl

theorem QOp_lookup (K : Maps.Keyed P kt) (ht : P.underlying t = some (.map kt et)) (he : P.underlying et = some (.int .i64)) (hz : ∀ w, (zeroValue et).run P w = .ok (.int .i64 0) w)
    (j : Nat) (vm : Value) (M : List (MK × Int)) (m : MK) (dk : D) (x y : Operand) (h : o.op = .lookup t x y true) (hx : evalO E x = some (.d (.s vm))) (hj : H[j]? = some (.mp vm (mapI P kt et M)))
    (hy : evalO E y = some (.d dk)) (hdk : isKey dk m) (hkey : ∃ kl, keyOf P kt m.enc = some kl) :
    QOp P n G o E H (.tup [.d (.s (.int .i64 ((lookM M m).getD 0))), .d (.s (.bool (lookM M m).isSome))]) := by
  intro r a w hr
  obtain ⟨kl, hkey⟩ := hkey
  have hev := evalO_s hr hx
  have hev2 := evalO_sound hr hy
  cases hev2 with
  | d _ _ hd =>
    have hk2 := hdk _ _ _ hd
    obtain ⟨b, hb⟩ := hr.heap.blk hj
    have hO := hr.heap.obj j _ b hj hb
    have hlt := hO.lt rfl
    cases hO with
    | mp _ _ c hv hc hI =>
      refine ⟨.tuple #[.int .i64 ((lookM M m).getD 0), .bool (lookM M m).isSome], .tup _ _ rfl ?_, fun w' hbl => ?_⟩
      · intro i u v h1 h2
        match i with
        | 0 => simp at h1 h2; subst h1; subst h2; exact .d _ _ (.s _)
        | 1 => simp at h1 h2; subst h1; subst h2; exact .d _ _ (.s _)
        | i + 2 => simp at h1
      · have := mapI_look K ht he hz (w := w') hI (by rw [hbl.block b hlt]; exact hc) hkey
        simp [execOp, h, hev, hk2, hv, this]

theorem AOps_mapUpdate (K' : Maps.Keyed P kt) (ht : P.underlying t = some (.map kt et)) (he : P.underlying et = some (.int .i64))
    (j : Nat) (vm : Value) (M : List (MK × Int)) (m : MK) (dk : D) (u : Int) (x y z : Operand) (hw : wantedE ops E o = some true) (hd : o.dst = none) (hop : o.op = .mapUpdate t x y z) (hx : evalO E x = some (.d (.s vm))) (hj : H[j]? = some (.mp vm (mapI P kt et M)))
    (hy : evalO E y = some (.d dk)) (hdk : isKey dk m) (hkey : ∃ kl, keyOf P kt m.enc = some kl) (hv : evalO E z = some (.d (.s (.int .i64 u)))) (hu : okI u = true) (hn : M.length < 4611686018427387904)
    (h : AOps P n G ops rest E (H.set j (.mp vm (mapI P kt et ((m, u) :: M)))) K) : AOps P n G ops (o :: rest) E H K := by
  intro r a w hr
  unfold wpList
  rw [wantedE_sound hr hw, if_pos rfl]
  left
  obtain ⟨kl, hkey⟩ := hkey
  have hev := evalO_s hr hx
  have hev3 := evalO_s hr hv
  have hev2 := evalO_sound hr hy
  cases hev2 with
  | d _ _ hd2 =>
    have hk2 := hdk _ _ _ hd2
    obtain ⟨b, hb⟩ := hr.heap.blk hj
    have hO := hr.heap.obj j _ b hj hb
    cases hO with
    | mp _ _ c hvm hc hI =>
      obtain ⟨w', c', hrun, hg, hc', hI'⟩ := mapI_put K' ht he hI hc hkey hu hn
      have hex : (execOp a.eval o).run P w = .ok .skip w' := by
        simp [execOp, hop, hev, hk2, hev3, hvm, hrun]
      unfold Oper.wp
      rw [hex, Oper.upon_skip, hd]
      exact h r _ _ (hr.go (step_mp hr.heap hj hb hg) (hrel_mp hr.heap hj hb hg hc' hI'))

theorem AOps_makeMap (d : Nat) (t : TypeId) (hw : wantedE ops E o = some true) (hd : o.dst = some d) (hlt : Nat.ble (d + 1) n = true) (hop : o.op = .makeMap t none) (kt et : TypeId)
    (h : ∀ vm : Value, vm.oneCell' = true → AOps P n G ops rest ((d, .d (.s vm)) :: E) (H ++ [.mp vm (mapI P kt et [])]) K) : AOps P n G ops (o :: rest) E H K := by
  intro r a w hr
  unfold wpList
  rw [wantedE_sound hr hw, if_pos rfl]
  left
  have hex : (execOp a.eval o).run P w = .ok (.value (.map (some w.heap.size))) (w.alloc (.map #[] 0)) := by
    simp [execOp, hop, run_makeMap]
  unfold Oper.wp
  rw [hex, Oper.upon_value]
  have hst := step_new hr.heap (.mp (.map (some w.heap.size)) (mapI P kt et [])) (below_alloc' w (.map #[] 0)) (size_alloc' w (.map #[] 0))
  have hh := hrel_new hr.heap (.mp (.map (some w.heap.size)) (mapI P kt et [])) (below_alloc' w (.map #[] 0)) (size_alloc' w (.map #[] 0)) (.mp _ _ (.map #[] 0) rfl (get_alloc' _ _) mapI_made)
  exact h _ rfl _ _ _ (hr.put hst hh o.dst _ _ d hd (Nat.le_of_ble_eq_true hlt) (.d _ _ (.s _)))

end
end Go.Proofs.YtghhnpdhehjlaaaGreat.Ab
