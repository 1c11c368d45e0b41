/- Own library, part 27: an append into the room behind a part of an owned slice; a slice made with room. Conditions stand in each rule. -/
import Derived.Test.YtldgmcghdohmeaaGreatAb26
import Derived.Test.YtldgmcghdohmeaaGreatAb15
set_option linter.unusedVariables false
set_option linter.unusedSimpArgs false
namespace Go.Proofs.YtldgmcghdohmeaaGreat.Ab
open Go Go.RowKit

section
variable {P : Program} {n : Nat} {G : Ctx} {E : Env} {H : List AObj} {ops : Array Oper} {rest : List Oper} {o : Oper} {K : Env → List AObj → Prop}

theorem AOps_append_part (d : Nat) (c : Call) (t e : TypeId) (x y : Operand) (k g lo m m' : Nat) (v : AV) (cs ds : List D) (i : TypeInfo) (hw : wantedE ops E o = some true) (hd : o.dst = some d) (hlt : Nat.ble (d + 1) n = true) (hop : o.op = .call c) (hc : c.callee = .builtin .append)
  (ha : c.args = #[x, y]) (ht : c.argTypes = #[t, t]) (hu : P.underlying t = some (.slice e)) (hi : P.info? e = some i) (hsz : i.size = 1)
  (hx : evalO E x = some (.part k g lo m)) (hk : H[k]? = some (.vec g cs)) (hy : evalO E y = some v) (hv : sliceOf H v = some ds) (hone : ∀ c ∈ ds, c.one = true) (hne : 1 ≤ ds.length) (hfit : lo + m + ds.length ≤ cs.length) (hm' : m + ds.length = m')
  (h : AOps P n G ops rest ((d, .part k g lo m') :: E) (H.set k (.vec g (spliced cs (lo + m) ds.length ds))) K) : AOps P n G ops (o :: rest) E H K := by
 subst hm'
 intro r a w hr
 unfold wpList
 rw [wantedE_sound hr hw, if_pos rfl]
 left
 have hkl := (List.getElem?_eq_some_iff.1 hk).1
 have hev := evalO_sound hr hx
 obtain ⟨A, cap2, vs2, ey, hL2, hA2⟩ := sliceOf_sound hr.heap hv (evalO_sound hr hy)
 generalize hxv : a.eval x = xv at hev
 cases hev with
 | part _ _ _ _ _ ho hp =>
  obtain ⟨b, hb⟩ := hr.heap.blk hk
  obtain ⟨e0, vs, ty, l0, c0, e1, e2, e3⟩ := (hp g cs b hk hb).2 rfl
  subst e1
  have hO := hr.heap.obj k _ b hk hb
  cases hO with
  | vec _ _ vs' ty' hwb hcap hm hl =>
   rw [hwb] at e2
   cases e2
   obtain ⟨rfl, rfl⟩ := e3 (by omega)
   have hones := hL2.oneCells hone
   have hl2 : vs2.length = ds.length := hL2.1
   have hst0 := run_storeCells_at P b (l0 + m) ty vs2 0 vs w hwb (by omega) hones
   simp only [Nat.add_zero] at hst0
   have hfc : ∀ w', w' = w → (Builtin.firstCells 1 ds.length (.slice A ds.length cap2)).run P w' = .ok vs2.toArray w' := by
    intro w' hw'; subst hw'
    rcases hA2 with rfl | ⟨ad, rfl, hcell⟩
    ·simp at hne
    ·exact run_firstCells_some w' 1 ds.length ad ds.length cap2 vs2 (by omega) hcell
   have hroom : m + ds.length ≤ vs.size - l0 := by omega
   have hrun : (Builtin.append_ #[t, t] o.type #[.slice (some ⟨b, l0, none⟩) m (vs.size - l0), a.eval y]).run P w = .ok (.slice (some ⟨b, l0, none⟩) (m + ds.length) (vs.size - l0)) (w.setRow b (vs.toList.take (l0 + m) ++ vs2 ++ vs.toList.drop (l0 + m + vs2.length)).toArray) := by
    rw [ey]
    simp [Builtin.append_, run_underlying hu, sizeOf, typeInfo, hi, Builtin.lenOf, hroom, hfc w rfl, Addr.add_lit, hsz, hst0]
   have ex : (execOp a.eval o).run P w = .ok (.value (.slice (some ⟨b, l0, none⟩) (m + ds.length) (vs.size - l0))) (w.setRow b (vs.toList.take (l0 + m) ++ vs2 ++ vs.toList.drop (l0 + m + vs2.length)).toArray) := by
    rw [run_builtin hop hc, ha, ht]
    simp [builtin, hxv, hrun]
   unfold Oper.wp
   rw [ex, Oper.upon_value]
   have hsz2 : (vs.toList.take (l0 + m) ++ vs2 ++ vs.toList.drop (l0 + m + vs2.length)).toArray.size = vs.size := by simp [hl2]; omega
   have hlen : (spliced cs (l0 + m) ds.length ds).length = cs.length := spliced_length cs (l0 + m) ds.length ds (by omega)
   have hst := step_write (x' := .vec g (spliced cs (l0 + m) ds.length ds)) hr.heap hk rfl hb hwb _ (.inr ⟨g, cs, _, rfl, rfl, hlen.symm, hsz2⟩)
   have hnew : RepL w (imm G.F w H r) (spliced cs (l0 + m) ds.length ds) ((vs.toList.take (l0 + m) ++ vs2 ++ vs.toList.drop (l0 + m + vs2.length)).take cs.length) := by
    have h1 : RepL w (imm G.F w H r) (cs.take (l0 + m)) (vs.toList.take (l0 + m)) := by
     have := hl.take (l0 + m)
     rwa [List.take_take, Nat.min_eq_left (by omega)] at this
    have h3 : RepL w (imm G.F w H r) (cs.drop (l0 + m + ds.length)) ((vs.toList.take cs.length).drop (l0 + m + ds.length)) := hl.drop _
    have := (h1.append hL2).append h3
    have e4 : (vs.toList.take (l0 + m) ++ vs2 ++ vs.toList.drop (l0 + m + vs2.length)).take cs.length = vs.toList.take (l0 + m) ++ vs2 ++ (vs.toList.take cs.length).drop (l0 + m + ds.length) := by
     rw [List.take_append, List.drop_take]
     have e5 : (vs.toList.take (l0 + m) ++ vs2).length = l0 + m + ds.length := by simp [hl2]; omega
     rw [e5, List.take_of_length_le (by rw [e5]; omega), hl2]
    have e6 : spliced cs (l0 + m) ds.length ds = cs.take (l0 + m) ++ ds ++ cs.drop (l0 + m + ds.length) := by
     unfold spliced
     rw [List.take_length, Nat.min_self]
    rw [e4, e6]
    exact this
   have hh' := hrel_write hr.heap hk rfl hb _ hst (.vec g _ _ ty (setRow_heap w b vs _ ty (0, 0) hwb) (by rw [hlen, hsz2]; exact hcap) (by rw [hsz2]; exact hm) (by rw [hlen]; simpa using hnew.mono hst.imm)) rfl
   refine h r _ _ (hr.put hst hh' o.dst _ _ d hd (Nat.le_of_ble_eq_true hlt) (.part k g l0 (m + ds.length) _ (by simpa using hkl) fun g' cs' b0 h1 h2 => ?_))
   rw [List.getElem?_set, if_pos rfl, if_pos hkl] at h1
   cases h1
   rw [hb] at h2
   cases h2
   exact ⟨Nat.le_refl _, fun _ => ⟨by rw [hlen]; omega, _, ty, l0, _, rfl, setRow_heap w b vs _ ty (0, 0) hwb, fun _ => ⟨rfl, by rw [hsz2]⟩⟩⟩
/-- A slice with no cells and room for c: an owned slice with c cells, of which none is taken. -/
theorem AOps_makeBuf (d : Nat) (t e : TypeId) (x y : Operand) (kl kc : IntKind) (c : Nat) (i : TypeInfo) (z : Value) (hw : wantedE ops E o = some true) (hd : o.dst = some d) (hlt : Nat.ble (d + 1) n = true) (hop : o.op = .makeSlice t x y)
  (hu : P.underlying t = some (.slice e)) (hi : P.info? e = some i) (hz : i.zero = some z) (hz1 : z.oneCell' = true) (hsz : i.size = 1) (hby : i.bytes ≤ 64) (hx : evalO E x = some (.d (.s (.int kl 0)))) (hy : evalO E y = some (.d (.s (.int kc (c : Int)))))
  (hc : c ≤ 1099511627776) (h : AOps P n G ops rest ((d, .part H.length 0 0 0) :: E) (H ++ [.vec 0 (List.replicate c (zD z))]) K) : AOps P n G ops (o :: rest) E H K := by
 intro r a w hr
 unfold wpList
 rw [wantedE_sound hr hw, if_pos rfl]
 left
 have hb2 : (i.bytes : Int) * (c : Int) ≤ 281474976710656 := by
  have : i.bytes * c ≤ 64 * 1099511627776 := Nat.mul_le_mul hby hc
  have h2 : ((i.bytes * c : Nat) : Int) ≤ 281474976710656 := by omega
  rwa [Int.natCast_mul] at h2
 have hrun := run_make (P := P) w t e i z hu hi hz kl kc (0 : Int) (c : Int) (by omega) (by omega) hb2 (by omega)
 rw [hsz] at hrun
 simp only [Int.toNat_natCast, Nat.mul_one] at hrun
 rw [madeOne hz1] at hrun
 have hex : (execOp a.eval o).run P w = .ok (.value (.slice (some ⟨w.heap.size, 0, none⟩) 0 c)) (w.alloc (.cells (List.replicate c z).toArray e)) := by
  simp [execOp, hop, evalO_s hr hx, evalO_s hr hy, hrun]
 have hl : RepL w (imm G.F w H r) (List.replicate c (zD z)) ((List.replicate c z).toArray.toList.take (List.replicate c (zD z)).length) := by
  have e1 : (List.replicate c z).toArray.toList.take (List.replicate c (zD z)).length = List.replicate c z := by simp
  have e2 : List.replicate c (zD z) = (List.replicate c z).map zD := by simp
  rw [e1, e2]; exact zD_repL _
 unfold Oper.wp
 rw [hex, Oper.upon_value]
 have hst := step_new hr.heap (.vec 0 (List.replicate c (zD z))) (below_alloc' w (.cells (List.replicate c z).toArray e)) (size_alloc' w (.cells (List.replicate c z).toArray e))
 have hh := hrel_new hr.heap (.vec 0 (List.replicate c (zD z))) (below_alloc' w (.cells (List.replicate c z).toArray e)) (size_alloc' w (.cells (List.replicate c z).toArray e)) (.vec 0 _ (List.replicate c z).toArray e (get_alloc' _ _) (by simp) (by simp only [List.size_toArray, List.length_replicate, maxLen]; omega) (hl.mono hst.imm))
 refine h _ _ _ (hr.put hst hh o.dst _ _ d hd (Nat.le_of_ble_eq_true hlt) (.part _ 0 0 0 _ (by simp) fun g' cs' b h1 h2 => ?_))
 simp at h1
 obtain ⟨rfl, rfl⟩ := h1
 simp [← hr.heap.len] at h2
 subst h2
 exact ⟨Nat.le_refl _, fun _ => ⟨by simp, (List.replicate c z).toArray, e, 0, c, rfl, get_alloc' _ _, fun _ => ⟨rfl, by simp⟩⟩⟩
theorem AOps_makeBufG {α : Type} (fl : List α → List D) (fe : α → D) (v : α) (hrep : ∀ n, List.replicate n (fe v) = fl (List.replicate n v)) (d : Nat) (t e : TypeId) (x y : Operand) (kl kc : IntKind) (c : Nat) (i : TypeInfo) (z : Value) (hzv : zD z = fe v) (hz1 : z.oneCell' = true) (hw : wantedE ops E o = some true) (hd : o.dst = some d) (hlt : Nat.ble (d + 1) n = true) (hop : o.op = .makeSlice t x y)
  (hu : P.underlying t = some (.slice e)) (hi : P.info? e = some i) (hz : i.zero = some z) (hsz : i.size = 1) (hby : i.bytes ≤ 64) (hx : evalO E x = some (.d (.s (.int kl 0)))) (hy : evalO E y = some (.d (.s (.int kc (c : Int)))))
  (hc : c ≤ 1099511627776) (h : AOps P n G ops rest ((d, .part H.length 0 0 0) :: E) (H ++ [.vec 0 (fl (List.replicate c v))]) K) : AOps P n G ops (o :: rest) E H K := by
 refine AOps_makeBuf d t e x y kl kc c i z hw hd hlt hop hu hi hz hz1 hsz hby hx hy hc ?_
 rw [← hrep, ← hzv] at h
 exact h
end
end Go.Proofs.YtldgmcghdohmeaaGreat.Ab
