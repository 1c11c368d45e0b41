/- Plain Lean for the laws: longest paths in two colours (Gerencser and Gyarfas). No program in sight. No conditions beyond those that each lemma states. -/
import Derived.Test.YtghhnpdhehjlaaaCyc
set_option linter.unusedVariables false
set_option linter.unusedSimpArgs false
namespace Go.Proofs.Ytghhnpdhehjlaaa
open Go Go.RowKit Ab

/-- The points of a list follow each other. -/
def ch (A : Int → Int → Prop) : List Int → Prop
  | [] => True
  | [_] => True
  | a :: b :: t => A a b ∧ ch A (b :: t)
section
variable {A : Int → Int → Prop}
theorem ch_split : ∀ (l r : List Int) (a b : Int), ch A (l ++ a :: b :: r) ↔ ch A (l ++ [a]) ∧ A a b ∧ ch A (b :: r)
  | [], r, a, b => ⟨fun h => ⟨trivial, h.1, h.2⟩, fun h => ⟨h.2.1, h.2.2⟩⟩
  | [c], r, a, b => ⟨fun h => ⟨⟨h.1, trivial⟩, h.2.1, h.2.2⟩, fun h => ⟨h.1.1, h.2.1, h.2.2⟩⟩
  | c :: d :: l, r, a, b => by
    have ih := ch_split (d :: l) r a b
    constructor
    · intro h; have h2 := ih.1 h.2; exact ⟨⟨h.1, h2.1⟩, h2.2⟩
    · intro h; exact ⟨h.1.1, ih.2 ⟨h.1.2, h.2⟩⟩
theorem ch_snoc (l : List Int) (a b : Int) : ch A (l ++ [a, b]) ↔ ch A (l ++ [a]) ∧ A a b := by
  rw [ch_split l [] a b]; exact ⟨fun h => ⟨h.1, h.2.1⟩, fun h => ⟨h.1, h.2, trivial⟩⟩
theorem ch_rev (hs : ∀ a b, A a b → A b a) : ∀ (l : List Int), ch A l → ch A l.reverse
  | [], _ => trivial
  | [_], _ => trivial
  | a :: b :: t, h => by
    have h1 := ch_rev hs (b :: t) h.2
    rw [List.reverse_cons] at h1 ⊢
    rw [List.reverse_cons, List.append_assoc]
    show ch A (t.reverse ++ [b, a])
    exact (ch_snoc _ _ _).2 ⟨h1, hs _ _ h.1⟩
end

theorem free_pair : ∀ (m : Nat) (L U : List Int), U.length = m → L.Nodup → 2 * m + 2 ≤ L.length → ∃ P u v Q, L = P ++ u :: v :: Q ∧ u ∉ U ∧ v ∉ U := by
  intro m
  induction m with
  | zero =>
    intro L U hU _ hl
    have : U = [] := List.eq_nil_of_length_eq_zero hU
    subst this
    match L, hl with
    | a :: b :: Q, _ => exact ⟨[], a, b, Q, rfl, by simp, by simp⟩
  | succ m ih =>
    intro L U hU hn hl
    match L, hl with
    | a :: b :: Q, hl =>
      simp only [List.nodup_cons, List.mem_cons, not_or] at hn
      by_cases ha : a ∈ U
      · obtain ⟨P, u, v, Q', e, h1, h2⟩ := ih Q (U.erase a) (by rw [List.length_erase_of_mem ha, hU]; rfl) hn.2.2 (by simp at hl; omega)
        refine ⟨a :: b :: P, u, v, Q', by rw [e]; rfl, fun h => h1 ?_, fun h => h2 ?_⟩
        · refine (List.mem_erase_of_ne ?_).2 h
          rintro rfl; exact hn.1.2 (by rw [e]; simp)
        · refine (List.mem_erase_of_ne ?_).2 h
          rintro rfl; exact hn.1.2 (by rw [e]; simp)
      · by_cases hb : b ∈ U
        · obtain ⟨P, u, v, Q', e, h1, h2⟩ := ih Q (U.erase b) (by rw [List.length_erase_of_mem hb, hU]; rfl) hn.2.2 (by simp at hl; omega)
          refine ⟨a :: b :: P, u, v, Q', by rw [e]; rfl, fun h => h1 ?_, fun h => h2 ?_⟩
          · refine (List.mem_erase_of_ne ?_).2 h
            rintro rfl; exact hn.2.1 (by rw [e]; simp)
          · refine (List.mem_erase_of_ne ?_).2 h
            rintro rfl; exact hn.2.1 (by rw [e]; simp)
        · exact ⟨[], a, b, Q, rfl, ha, hb⟩

/-- What is known of a longest path x1, I, xp in a colour (the other one: B), and of the points Y off it. -/
structure Fact (B : Int → Int → Prop) (x1 xp : Int) (I Y : List Int) : Prop where
  hs : ∀ a b, B a b → B b a
  nd : (x1 :: xp :: (I ++ Y)).Nodup
  e1 : ∀ y ∈ Y, B y x1
  ep : ∀ y ∈ Y, B y xp
  mid : ∀ P u v Q, I = P ++ u :: v :: Q → ∀ y ∈ Y, B y u ∨ B y v

/-- An alternating path with its ends among some points. -/
structure Alt (B : Int → Int → Prop) (Y S : List Int) : Prop where
  c : ch B S
  hd : ∃ a t, S = a :: t ∧ a ∈ Y
  ls : ∃ t b, S = t ++ [b] ∧ b ∈ Y
theorem Alt.single {B : Int → Int → Prop} {Y : List Int} {w : Int} (h : w ∈ Y) : Alt B Y [w] := ⟨trivial, ⟨w, [], rfl, h⟩, ⟨[], w, rfl, h⟩⟩
theorem Alt.sub {B : Int → Int → Prop} {Y Y' S : List Int} (h : Alt B Y S) (hY : ∀ z ∈ Y, z ∈ Y') : Alt B Y' S :=
  ⟨h.c, by obtain ⟨a, t, e, ha⟩ := h.hd; exact ⟨a, t, e, hY a ha⟩, by obtain ⟨a, t, e, ha⟩ := h.ls; exact ⟨a, t, e, hY _ ha⟩⟩
theorem Alt.rev {B : Int → Int → Prop} {Y S : List Int} (hs : ∀ a b, B a b → B b a) (h : Alt B Y S) : Alt B Y S.reverse :=
  ⟨ch_rev hs _ h.c, by obtain ⟨t, b, e, hb⟩ := h.ls; exact ⟨b, t.reverse, by rw [e]; simp, hb⟩, by obtain ⟨a, t, e, ha⟩ := h.hd; exact ⟨t.reverse, a, by rw [e]; simp, ha⟩⟩
theorem Alt.join {B : Int → Int → Prop} {Y S T : List Int} {a b z : Int} {S' T' : List Int} (hS : Alt B Y S) (hT : Alt B Y T) (e1 : S = S' ++ [a]) (e2 : T = b :: T') (h1 : B a z) (h2 : B z b) : Alt B Y (S ++ z :: T) := by
  subst e1; subst e2
  refine ⟨?_, ?_, ?_⟩
  · rw [List.append_assoc]
    show ch B (S' ++ a :: z :: (b :: T'))
    rw [ch_split]
    exact ⟨hS.c, h1, h2, hT.c⟩
  · obtain ⟨c, t, e, hc⟩ := hS.hd
    exact ⟨c, t ++ z :: b :: T', by rw [e]; rfl, hc⟩
  · obtain ⟨t, c, e, hc⟩ := hT.ls
    exact ⟨(S' ++ [a]) ++ z :: t, c, by rw [e]; simp, hc⟩

inductive St (B : Int → Int → Prop) (I C : List Int) : Prop where
  | one (S U : List Int) (h : Alt B C S) (nd : (S).Nodup) (hU : ∀ z ∈ U, z ∈ I) (hm : ∀ z ∈ S, z ∈ C ∨ z ∈ U) (lU : U.length + 1 = C.length) (lS : S.length = C.length + U.length)
  | two (S T U : List Int) (h : Alt B C S) (h' : Alt B C T) (nd : (S ++ T).Nodup) (hU : ∀ z ∈ U, z ∈ I) (hm : ∀ z ∈ S ++ T, z ∈ C ∨ z ∈ U) (lU : U.length + 2 = C.length) (lS : S.length + T.length = C.length + U.length)

theorem ger_share {B : Int → Int → Prop} {a c w u v : Int} (ha : B a u ∨ B a v) (hc : B c u ∨ B c v) (hw : B w u ∨ B w v) : ∃ z, (z = u ∨ z = v) ∧ ((B a z ∧ B w z) ∨ (B c z ∧ B w z) ∨ (B a z ∧ B c z)) := by
  rcases ha with ha | ha <;> rcases hc with hc | hc <;> rcases hw with hw | hw
  all_goals first
    | exact ⟨u, .inl rfl, .inl ⟨ha, hw⟩⟩
    | exact ⟨v, .inr rfl, .inl ⟨ha, hw⟩⟩
    | exact ⟨u, .inl rfl, .inr (.inl ⟨hc, hw⟩)⟩
    | exact ⟨v, .inr rfl, .inr (.inl ⟨hc, hw⟩)⟩
    | exact ⟨u, .inl rfl, .inr (.inr ⟨ha, hc⟩)⟩
    | exact ⟨v, .inr rfl, .inr (.inr ⟨ha, hc⟩)⟩

theorem nd_perm {l r : List Int} (h : l.Perm r) (hn : r.Nodup) : l.Nodup := h.nodup_iff.2 hn

theorem st_all {B : Int → Int → Prop} {x1 xp : Int} {I Y : List Int} (F : Fact B x1 xp I Y) (hl : 2 * Y.length ≤ I.length + 3) : ∀ (C D : List Int), Y = C ++ D → C ≠ [] → St B I C → St B I Y := by
  intro C D
  induction D generalizing C with
  | nil => intro e _ h; rw [e, List.append_nil]; exact h
  | cons w D ih =>
    intro e hC h
    refine ih (C ++ [w]) (by rw [e]; simp) (by simp) ?_
    have hnd := F.nd
    simp only [List.nodup_cons, List.nodup_append, List.mem_cons, List.mem_append, not_or] at hnd
    obtain ⟨⟨hx, hxI, hxY⟩, ⟨hpI, hpY⟩, hIn, hYn, hIY⟩ := hnd
    have hwY : w ∈ Y := by rw [e]; simp
    have hCY : ∀ z ∈ C, z ∈ Y := fun z hz => by rw [e]; exact List.mem_append_left _ hz
    have hwC : w ∉ C := fun hm => by
      rw [e] at hYn
      exact (List.nodup_append.1 hYn).2.2 w hm w (by simp) rfl
    have hwI : w ∉ I := fun hm => hIY w hm w hwY rfl
    have hCw : ∀ z ∈ C, z ∈ C ++ [w] := fun z hz => List.mem_append_left _ hz
    have hlen : C.length + 1 ≤ Y.length := by rw [e]; simp
    cases h with
    | one S U h nd hU hm lU lS =>
      refine .two S [w] U (h.sub hCw) (Alt.single (by simp)) ?_ hU ?_ (by simp; omega) (by simp; omega)
      · rw [List.nodup_append]
        refine ⟨nd, by simp, fun a ha b hb e2 => ?_⟩
        rw [List.mem_singleton] at hb
        subst hb; subst e2
        rcases hm a ha with h | h
        · exact hwC h
        · exact hwI (hU a h)
      · intro z hz
        rcases List.mem_append.1 hz with hz | hz
        · rcases hm z hz with h | h
          · exact .inl (hCw z h)
          · exact .inr h
        · exact .inl (List.mem_append_right _ hz)
    | two S T U h h' nd hU hm lU lS =>
      obtain ⟨P, u, v, Q, eI, hu, hv⟩ := free_pair U.length I U rfl hIn (by omega)
      obtain ⟨a, S', eS, haC⟩ := h.hd
      obtain ⟨c, T', eT, hcC⟩ := h'.hd
      obtain ⟨z, hz, hsh⟩ := ger_share (F.mid P u v Q eI a (hCY a haC)) (F.mid P u v Q eI c (hCY c hcC)) (F.mid P u v Q eI w hwY)
      have hzI : z ∈ I := by rw [eI]; rcases hz with rfl | rfl <;> simp
      have hzU : z ∉ U := by rcases hz with rfl | rfl <;> assumption
      have hzC : z ∉ C := fun hm => hIY z hzI z (hCY z hm) rfl
      have hzw : z ≠ w := fun e => hwI (e ▸ hzI)
      have hzST : z ∉ S ++ T := fun hm2 => by
        rcases hm z hm2 with h | h
        · exact hzC h
        · exact hzU h
      have hwST : w ∉ S ++ T := fun hm2 => by
        rcases hm w hm2 with h | h
        · exact hwC h
        · exact hwI (hU w h)
      have base : (w :: z :: (S ++ T)).Nodup := by
        simp only [List.nodup_cons, List.mem_cons, not_or]
        exact ⟨⟨fun e => hzw e.symm, hwST⟩, hzST, nd⟩
      have hU' : ∀ y ∈ z :: U, y ∈ I := fun y hy => by
        rcases List.mem_cons.1 hy with rfl | hy
        · exact hzI
        · exact hU y hy
      have hm' : ∀ y, (y = w ∨ y = z ∨ y ∈ S ∨ y ∈ T) → y ∈ C ++ [w] ∨ y ∈ z :: U := by
        rintro y (rfl | rfl | hy | hy)
        · exact .inl (by simp)
        · exact .inr (by simp)
        · rcases hm y (List.mem_append_left _ hy) with h | h
          · exact .inl (hCw _ h)
          · exact .inr (List.mem_cons_of_mem _ h)
        · rcases hm y (List.mem_append_right _ hy) with h | h
          · exact .inl (hCw _ h)
          · exact .inr (List.mem_cons_of_mem _ h)
      have hsw : Alt B (C ++ [w]) [w] := Alt.single (by simp)
      rcases hsh with ⟨h1, h2⟩ | ⟨h1, h2⟩ | ⟨h1, h2⟩
      · refine .two ([w] ++ z :: S) T (z :: U) (hsw.join (h.sub hCw) (S' := []) rfl eS h2 (F.hs _ _ h1)) (h'.sub hCw) ?_ hU' ?_ (by simp; omega) (by simp; omega)
        · exact nd_perm (by simp) base
        · intro y hy; refine hm' y ?_; simpa [or_assoc] using hy
      · refine .two S ([w] ++ z :: T) (z :: U) (h.sub hCw) (hsw.join (h'.sub hCw) (S' := []) rfl eT h2 (F.hs _ _ h1)) ?_ hU' ?_ (by simp; omega) (by simp; omega)
        · refine nd_perm ?_ base
          refine List.perm_middle.trans (.cons _ ?_)
          exact List.perm_middle
        · intro y hy
          refine hm' y ?_
          simp only [List.mem_append, List.mem_cons, List.not_mem_nil, or_false] at hy
          rcases hy with hy | hy | hy | hy
          · exact .inr (.inr (.inl hy))
          · exact .inl hy
          · exact .inr (.inl hy)
          · exact .inr (.inr (.inr hy))
      · refine .two (T.reverse ++ z :: S) [w] (z :: U) ((h'.sub hCw |>.rev F.hs).join (h.sub hCw) (S' := T'.reverse) (by rw [eT]; simp) eS h2 (F.hs _ _ h1)) hsw ?_ hU' ?_ (by simp; omega) (by simp; omega)
        · refine nd_perm ?_ base
          refine (List.perm_append_comm).trans (.cons _ ?_)
          refine List.perm_middle.trans (.cons _ ?_)
          exact (List.perm_append_comm).trans (List.Perm.append_left _ (List.reverse_perm T))
        · intro y hy
          refine hm' y ?_
          simp only [List.mem_append, List.mem_cons, List.not_mem_nil, or_false, List.mem_reverse] at hy
          rcases hy with (hy | hy | hy) | hy
          · exact .inr (.inr (.inr hy))
          · exact .inr (.inl hy)
          · exact .inr (.inr (.inl hy))
          · exact .inl hy

/-- Gerencser and Gyarfas: there is a path in the other colour with more than q points. -/
theorem ger {B : Int → Int → Prop} {x1 xp : Int} {I Y : List Int} (F : Fact B x1 xp I Y) {q : Nat} (hY : Y ≠ []) (h1 : 2 * Y.length ≤ q + 1) (h2 : q ≤ 2 * Y.length) (hq : q ≤ I.length + 2) :
    ∃ W : List Int, ch B W ∧ W.Nodup ∧ q < W.length ∧ ∀ z ∈ W, z = x1 ∨ z = xp ∨ z ∈ I ∨ z ∈ Y := by
  obtain ⟨y0, Y0, eY⟩ : ∃ y0 Y0, Y = y0 :: Y0 := by
    cases Y with
    | nil => exact absurd rfl hY
    | cons a t => exact ⟨a, t, rfl⟩
  have h := st_all F (by omega) [y0] Y0 eY (by simp) (.one [y0] [] (Alt.single (by simp)) (by simp) (by simp) (by simp) (by simp) (by simp))
  have hnd := F.nd
  simp only [List.nodup_cons, List.nodup_append, List.mem_cons, List.mem_append, not_or] at hnd
  obtain ⟨⟨hx, hxI, hxY⟩, ⟨hpI, hpY⟩, hIn, hYn, hIY⟩ := hnd
  -- an alternating path through all of them, and the two ends
  have fin1 : ∀ S U : List Int, Alt B Y S → S.Nodup → (∀ z ∈ U, z ∈ I) → (∀ z ∈ S, z ∈ Y ∨ z ∈ U) → q < S.length + 2 → ∃ W : List Int, ch B W ∧ W.Nodup ∧ q < W.length ∧ ∀ z ∈ W, z = x1 ∨ z = xp ∨ z ∈ I ∨ z ∈ Y := by
    intro S U h nd hU hm hl
    obtain ⟨a, S', eS, ha⟩ := h.hd
    obtain ⟨S2, b, eS2, hb⟩ := h.ls
    have hmS : ∀ z ∈ S, z ∈ I ∨ z ∈ Y := fun z hz => by
      rcases hm z hz with h | h
      · exact .inr h
      · exact .inl (hU z h)
    refine ⟨xp :: (S ++ [x1]), ?_, ?_, by simp; omega, fun z hz => ?_⟩
    · have e3 : xp :: (S ++ [x1]) = xp :: a :: (S' ++ [x1]) := by rw [eS]; rfl
      rw [e3]
      refine ⟨F.hs _ _ (F.ep a ha), ?_⟩
      have e4 : a :: (S' ++ [x1]) = S2 ++ [b, x1] := by
        have : a :: (S' ++ [x1]) = S ++ [x1] := by rw [eS]; rfl
        rw [this, eS2]; simp
      rw [e4, ch_snoc, ← eS2]
      exact ⟨h.c, F.e1 b hb⟩
    · refine nd_perm (r := x1 :: xp :: S) ((List.Perm.cons _ List.perm_append_comm).trans (List.Perm.swap ..)) ?_
      simp only [List.nodup_cons, List.mem_cons, not_or]
      refine ⟨⟨hx, fun hm => ?_⟩, fun hm => ?_, nd⟩
      · rcases hmS _ hm with h | h
        · exact hxI h
        · exact hxY h
      · rcases hmS _ hm with h | h
        · exact hpI h
        · exact hpY h
    · simp only [List.mem_cons, List.mem_append, List.not_mem_nil, or_false] at hz
      rcases hz with rfl | hz | rfl
      · exact .inr (.inl rfl)
      · exact .inr (.inr (hmS z hz))
      · exact .inl rfl
  cases h with
  | one S U h nd hU hm lU lS => exact fin1 S U h nd hU hm (by omega)
  | two S T U h h' nd hU hm lU lS =>
    obtain ⟨a, S', eS, ha⟩ := h.hd
    obtain ⟨c, T', eT, hc⟩ := h'.hd
    obtain ⟨S2, b, eS2, hb⟩ := h.ls
    obtain ⟨T2, d, eT2, hd⟩ := h'.ls
    have hmS : ∀ z ∈ S ++ T, z ∈ I ∨ z ∈ Y := fun z hz => by
      rcases hm z hz with h | h
      · exact .inr h
      · exact .inl (hU z h)
    have hx1 : x1 ∉ S ++ T := fun hm => by
      rcases hmS _ hm with h | h
      · exact hxI h
      · exact hxY h
    have hxp : xp ∉ S ++ T := fun hm => by
      rcases hmS _ hm with h | h
      · exact hpI h
      · exact hpY h
    by_cases hodd : q < 2 * Y.length
    · -- both ends and both paths
      refine ⟨xp :: (S ++ x1 :: T), ?_, ?_, by simp; omega, fun z hz => ?_⟩
      · have e3 : xp :: (S ++ x1 :: T) = xp :: a :: (S' ++ x1 :: T) := by rw [eS]; rfl
        rw [e3]
        refine ⟨F.hs _ _ (F.ep a ha), ?_⟩
        have e4 : a :: (S' ++ x1 :: T) = S2 ++ b :: x1 :: T := by
          have : a :: (S' ++ x1 :: T) = S ++ x1 :: T := by rw [eS]; rfl
          rw [this, eS2]; simp
        rw [e4, ch_split, ← eS2]
        refine ⟨h.c, F.e1 b hb, ?_⟩
        have hT := h'.c
        rw [eT] at hT ⊢
        exact ⟨F.hs _ _ (F.e1 c hc), hT⟩
      · refine nd_perm (r := xp :: x1 :: (S ++ T)) (.cons _ List.perm_middle) ?_
        simp only [List.nodup_cons, List.mem_cons, not_or]
        exact ⟨⟨fun e => hx e.symm, hxp⟩, hx1, nd⟩
      · simp only [List.mem_cons, List.mem_append] at hz
        rcases hz with rfl | hz | rfl | hz
        · exact .inr (.inl rfl)
        · exact .inr (.inr (hmS z (List.mem_append_left _ hz)))
        · exact .inl rfl
        · exact .inr (.inr (hmS z (List.mem_append_right _ hz)))
    · obtain ⟨P, u, v, Q, eI, hu, hv⟩ := free_pair U.length I U rfl hIn (by omega)
      have huv : u ≠ v := by
        rintro rfl
        rw [eI, List.nodup_append] at hIn
        exact (List.nodup_cons.1 hIn.2.1).1 (by simp)
      have huI : u ∈ I := by rw [eI]; simp
      have hvI : v ∈ I := by rw [eI]; simp
      have hnot : ∀ z ∈ I, z ∉ U → z ∉ S ++ T := fun z hz hzU hm2 => by
        rcases hm z hm2 with h | h
        · exact hIY z hz z h rfl
        · exact hzU h
      -- a point that both begin with
      have common : ∀ z, z ∈ I → z ∉ U → B a z → B c z → ∃ W : List Int, ch B W ∧ W.Nodup ∧ q < W.length ∧ ∀ z ∈ W, z = x1 ∨ z = xp ∨ z ∈ I ∨ z ∈ Y := by
        intro z hzI hzU haz hcz
        refine fin1 (T.reverse ++ z :: S) (z :: U) ((h'.rev F.hs).join h (S' := T'.reverse) (by rw [eT]; simp) eS hcz (F.hs _ _ haz)) ?_ ?_ ?_ (by simp; omega)
        · refine nd_perm (r := z :: (S ++ T)) ?_ ?_
          · refine List.perm_middle.trans (.cons _ ?_)
            exact (List.perm_append_comm).trans (List.Perm.append_left _ (List.reverse_perm T))
          · rw [List.nodup_cons]; exact ⟨hnot z hzI hzU, nd⟩
        · intro y hy
          rcases List.mem_cons.1 hy with rfl | hy
          · exact hzI
          · exact hU y hy
        · intro y hy
          simp only [List.mem_append, List.mem_cons, List.mem_reverse] at hy
          rcases hy with hy | rfl | hy
          · rcases hm y (List.mem_append_right _ hy) with h | h
            · exact .inl h
            · exact .inr (List.mem_cons_of_mem _ h)
          · exact .inr (by simp)
          · rcases hm y (List.mem_append_left _ hy) with h | h
            · exact .inl h
            · exact .inr (List.mem_cons_of_mem _ h)
      -- a point of the pair each
      have each : ∀ u v, u ∈ I → v ∈ I → u ∉ U → v ∉ U → u ≠ v → B a u → B c v → ∃ W : List Int, ch B W ∧ W.Nodup ∧ q < W.length ∧ ∀ z ∈ W, z = x1 ∨ z = xp ∨ z ∈ I ∨ z ∈ Y := by
        intro u v huI hvI hu hv huv hau hcv
        refine ⟨u :: (S ++ x1 :: (T.reverse ++ [v])), ?_, ?_, by simp; omega, fun z hz => ?_⟩
        · have e3 : u :: (S ++ x1 :: (T.reverse ++ [v])) = u :: a :: (S' ++ x1 :: (T.reverse ++ [v])) := by rw [eS]; rfl
          rw [e3]
          refine ⟨F.hs _ _ hau, ?_⟩
          have e4 : a :: (S' ++ x1 :: (T.reverse ++ [v])) = S2 ++ b :: x1 :: (T.reverse ++ [v]) := by
            have : a :: (S' ++ x1 :: (T.reverse ++ [v])) = S ++ x1 :: (T.reverse ++ [v]) := by rw [eS]; rfl
            rw [this, eS2]; simp
          rw [e4, ch_split, ← eS2]
          refine ⟨h.c, F.e1 b hb, ?_⟩
          have e5 : T.reverse ++ [v] = d :: (T2.reverse ++ [v]) := by rw [eT2]; simp
          have e6 : d :: (T2.reverse ++ [v]) = T'.reverse ++ [c, v] := by rw [← e5, eT]; simp
          rw [e5]
          refine ⟨F.hs _ _ (F.e1 d hd), ?_⟩
          rw [e6, ch_snoc]
          have hr := ch_rev F.hs T h'.c
          rw [eT, List.reverse_cons] at hr
          exact ⟨hr, hcv⟩
        · refine nd_perm (r := u :: v :: x1 :: (S ++ T)) ?_ ?_
          · refine .cons _ ?_
            refine List.Perm.trans ?_ (List.Perm.swap ..)
            refine List.perm_middle.trans (.cons _ ?_)
            rw [← List.append_assoc]
            refine List.perm_append_comm.trans (.cons _ ?_)
            exact (List.reverse_perm T).append_left S
          · simp only [List.nodup_cons, List.mem_cons, not_or]
            exact ⟨⟨huv, fun e => hxI (e ▸ huI), hnot u huI hu⟩, ⟨fun e => hxI (e ▸ hvI), hnot v hvI hv⟩, hx1, nd⟩
        · simp only [List.mem_cons, List.mem_append, List.mem_reverse, List.not_mem_nil, or_false] at hz
          rcases hz with rfl | hz | rfl | hz | rfl
          · exact .inr (.inr (.inl huI))
          · exact .inr (.inr (hmS z (List.mem_append_left _ hz)))
          · exact .inl rfl
          · exact .inr (.inr (hmS z (List.mem_append_right _ hz)))
          · exact .inr (.inr (.inl hvI))
      rcases F.mid P u v Q eI a ha with h1 | h1 <;> rcases F.mid P u v Q eI c hc with h2 | h2
      · exact common u huI hu h1 h2
      · exact each u v huI hvI hu hv huv h1 h2
      · exact each v u hvI huI hv hu (fun e => huv e.symm) h1 h2
      · exact common v hvI hv h1 h2

/-! ### Longest paths -/
section
variable {A : Int → Int → Bool} {n : Nat}
abbrev tr (A : Int → Int → Bool) : Int → Int → Prop := fun a b => A a b = true
theorem path_len : ∀ (t : List Int) (a : Int) (u : Nat), ch (tr A) (a :: t) → t.Nodup → (∀ z ∈ t, (0 ≤ z ∧ z < n) ∧ u.testBit z.toNat = false) → t.length ≤ eX A n u a
  | [], a, u, _, _, _ => Nat.zero_le _
  | b :: t, a, u, hc, hn, hr => by
    obtain ⟨⟨h0, h1⟩, hb⟩ := hr b (List.mem_cons_self ..)
    obtain ⟨hbt, hn'⟩ := List.nodup_cons.1 hn
    have e : ((b.toNat : Nat) : Int) = b := by omega
    have ih := path_len t b (add u b.toNat) hc.2 hn' fun z hz => by
      have h2 := hr z (List.mem_cons_of_mem _ hz)
      refine ⟨h2.1, ?_⟩
      have : ¬ b.toNat = z.toNat := fun e2 => hbt (by rw [show b = z by omega]; exact hz)
      rw [add_test, h2.2]; simp [this]
    have h3 := eX_ge (A := A) (n := n) (u := u) (last := a) (p := b.toNat) (by omega) (by rw [e]; exact hc.1) hb
    rw [e] at h3
    rw [List.length_cons]; omega
theorem lpN_ok : ∀ (m u : Nat) (last : Int), eX A n u last = m → ch (tr A) (last :: lpN A n m u last) ∧ (lpN A n m u last).Nodup ∧ ∀ z ∈ lpN A n m u last, (0 ≤ z ∧ z < n) ∧ u.testBit z.toNat = false := by
  intro m
  induction m with
  | zero => intro u last _; exact ⟨trivial, List.nodup_nil, fun z hz => by cases hz⟩
  | succ m ih =>
    intro u last h
    obtain ⟨p, hp, hf, ha, hb, e⟩ := lp_find h
    obtain ⟨h1, h2, h3⟩ := ih (add u p) p e
    rw [lpN, hf]
    simp only [Int.toNat_natCast]
    refine ⟨⟨ha, h1⟩, List.nodup_cons.2 ⟨fun hm => ?_, h2⟩, fun z hz => ?_⟩
    · have := (h3 _ hm).2
      rw [Int.toNat_natCast, add_test] at this
      simp at this
    · rcases List.mem_cons.1 hz with rfl | hz
      · exact ⟨⟨by omega, by omega⟩, by rw [Int.toNat_natCast]; exact hb⟩
      · obtain ⟨h4, h5⟩ := h3 z hz
        rw [add_test] at h5
        simp at h5
        exact ⟨h4, h5.1⟩
theorem lp_ok (hn : 1 ≤ n) : ch (tr A) (lp A n) ∧ (lp A n).Nodup ∧ (∀ z ∈ lp A n, 0 ≤ z ∧ z < n) ∧ 1 ≤ (lp A n).length ∧ ∀ W : List Int, ch (tr A) W → W.Nodup → (∀ z ∈ W, 0 ≤ z ∧ z < n) → W.length ≤ (lp A n).length := by
  obtain ⟨f, m, e, hf, hm, h1, h2⟩ := lpF_spec (A := A) (n := n) n hn
  have el : lp A n = (f : Int) :: lpN A n m (add 0 f) f := by unfold lp; rw [e]; simp
  obtain ⟨g1, g2, g3⟩ := lpN_ok m (add 0 f) (f : Int) hm.symm
  have hl := lpN_length m (add 0 f) (f : Int) hm.symm
  rw [el]
  refine ⟨g1, List.nodup_cons.2 ⟨fun hmm => ?_, g2⟩, fun z hz => ?_, by simp, fun W hW hN hR => ?_⟩
  · have := (g3 _ hmm).2
    rw [Int.toNat_natCast, add_test] at this
    simp at this
  · rcases List.mem_cons.1 hz with rfl | hz
    · exact ⟨by omega, by omega⟩
    · exact (g3 z hz).1
  · cases W with
    | nil => simp
    | cons a t =>
      obtain ⟨hat, hN'⟩ := List.nodup_cons.1 hN
      have ha := hR a (List.mem_cons_self ..)
      have e2 : ((a.toNat : Nat) : Int) = a := by omega
      have := path_len (A := A) (n := n) t a (add 0 a.toNat) hW hN' fun z hz => by
        refine ⟨hR z (List.mem_cons_of_mem _ hz), ?_⟩
        have hz0 := hR z (List.mem_cons_of_mem _ hz)
        have : ¬ a.toNat = z.toNat := fun e2 => hat (by rw [show a = z by omega]; exact hz)
        rw [add_test]; simp [this]
      have h3 := h1 a.toNat (by omega)
      rw [e2] at h3
      rw [List.length_cons, List.length_cons, hl]; omega

theorem chn_ch : ∀ (t : List Int) (a : Int), chn A a t → ch (tr A) (a :: t)
  | [], _, _ => trivial
  | b :: t, a, h => ⟨h.1, chn_ch t b h.2⟩
/-- A cycle is no longer than a path. -/
theorem cy_le (hn : 1 ≤ n) {f : Nat} {t : List Int} (hf : f < n) (h : Cy A n f t) : t.length + 1 ≤ (lp A n).length := by
  refine (lp_ok hn).2.2.2.2 ((f : Int) :: t) (chn_ch _ _ h.1.ch) (List.nodup_cons.2 ⟨fun hm => ?_, h.1.nd⟩) fun z hz => ?_
  · have := h.1.rg _ hm; omega
  · rcases List.mem_cons.1 hz with rfl | hz
    · exact ⟨by omega, by omega⟩
    · have := h.1.rg z hz; exact ⟨by omega, this.2⟩
end

theorem filter_off (l : List Int) (hl : l.Nodup) : ∀ L : List Int, l.length ≤ (l.filter fun z => !decide (z ∈ L)).length + L.length
  | [] => by rw [List.filter_eq_self.2 fun a _ => by simp]; simp
  | a :: L => by
    have ih := filter_off l hl L
    have e : (l.filter fun z => !decide (z ∈ a :: L)) = (l.filter fun z => !decide (z ∈ L)).filter fun z => !decide (z = a) := by
      rw [List.filter_filter]
      refine List.filter_congr fun z _ => ?_
      by_cases h1 : z = a <;> by_cases h2 : z ∈ L <;> simp [h1, h2]
    rw [e, List.length_cons]
    by_cases hm : a ∈ (l.filter fun z => !decide (z ∈ L))
    · have := filter_ne_length (hl.filter _) hm
      omega
    · have : ((l.filter fun z => !decide (z ∈ L)).filter fun z => !decide (z = a)) = (l.filter fun z => !decide (z ∈ L)) := List.filter_eq_self.2 fun z hz => by
        have : z ≠ a := fun e => hm (e ▸ hz)
        simp [this]
      rw [this]; omega

section
variable {A B : Int → Int → Bool} {n : Nat}
theorem two_paths' (hn : 1 ≤ n) (hA : ∀ a b, A a b = A b a) (hB : ∀ a b, B a b = B b a) (hAB : ∀ a b : Int, 0 ≤ a → a < n → 0 ≤ b → b < n → a ≠ b → A a b = true ∨ B a b = true) (hpq : (lp B n).length ≤ (lp A n).length) :
    n + 1 ≤ (lp A n).length + ((lp B n).length + 1) / 2 := by
  refine Classical.byContradiction fun hcon => ?_
  obtain ⟨a1, a2, a3, a4, a5⟩ := lp_ok (A := A) hn
  obtain ⟨b1, b2, b3, b4, b5⟩ := lp_ok (A := B) hn
  have hp2 : 2 ≤ (lp A n).length := by
    refine Classical.byContradiction fun h => ?_
    rcases hAB 0 1 (by omega) (by omega) (by omega) (by omega) (by decide) with h1 | h1
    · have := a5 [0, 1] ⟨h1, trivial⟩ (by decide) (by intro z hz; simp at hz; omega)
      simp at this; omega
    · have := b5 [0, 1] ⟨h1, trivial⟩ (by decide) (by intro z hz; simp at hz; omega)
      simp at this; omega
  generalize lp A n = L at *
  generalize hq : (lp B n).length = q at *
  obtain ⟨x1, I, xp, rfl⟩ : ∃ x1 I xp, L = x1 :: (I ++ [xp]) := by
    match L, hp2 with
    | a :: b :: t, _ => exact ⟨a, (b :: t).dropLast, (b :: t).getLast (by simp), by rw [List.dropLast_concat_getLast]⟩
  simp only [List.length_cons, List.length_append, List.length_nil] at *
  -- the points off the path
  have hoff := filter_off (ir 0 n) (ir_nodup _ _) (x1 :: (I ++ [xp]))
  rw [ir_length] at hoff
  simp only [List.length_cons, List.length_append, List.length_nil] at hoff
  generalize hYY : (ir 0 n).filter (fun z => !decide (z ∈ x1 :: (I ++ [xp]))) = Y0 at hoff
  have hY0 : ∀ y ∈ Y0, (0 ≤ y ∧ y < n) ∧ y ∉ x1 :: (I ++ [xp]) := fun y hy => by
    rw [← hYY, List.mem_filter, mem_ir] at hy
    refine ⟨⟨by omega, by omega⟩, by simpa using hy.2⟩
  have hY0n : Y0.Nodup := by rw [← hYY]; exact (ir_nodup _ _).filter _
  have hYl : (Y0.take ((q + 1) / 2)).length = (q + 1) / 2 := by rw [List.length_take]; omega
  have hYm : ∀ y ∈ Y0.take ((q + 1) / 2), (0 ≤ y ∧ y < n) ∧ y ∉ x1 :: (I ++ [xp]) := fun y hy => hY0 y (List.mem_of_mem_take hy)
  have hYn : (Y0.take ((q + 1) / 2)).Nodup := (List.take_sublist _ _).nodup hY0n
  generalize Y0.take ((q + 1) / 2) = Y at hYl hYm hYn
  have hx1 := a3 x1 (by simp)
  have hxp := a3 xp (by simp)
  have longer : ∀ W : List Int, ch (tr A) W → (∃ y ∈ Y, W.Perm (y :: x1 :: (I ++ [xp]))) → False := by
    rintro W hW ⟨y, hy, hperm⟩
    have h1 := a5 W hW (nd_perm hperm (List.nodup_cons.2 ⟨(hYm y hy).2, a2⟩)) fun z hz => by
      rcases List.mem_cons.1 ((hperm.mem_iff).1 hz) with rfl | h
      · exact (hYm _ hy).1
      · exact a3 z h
    have := hperm.length_eq
    simp at this; omega
  have other : ∀ y ∈ Y, ∀ z ∈ x1 :: (I ++ [xp]), ¬ A y z = true → B y z = true := fun y hy z hz h => by
    have h1 := hYm y hy
    have h2 := a3 z hz
    rcases hAB y z h1.1.1 h1.1.2 h2.1 h2.2 (fun e => h1.2 (e ▸ hz)) with h3 | h3
    · exact absurd h3 h
    · exact h3
  have hd1 : ∀ y ∈ Y, ¬ A y x1 = true := fun y hy h => longer (y :: x1 :: (I ++ [xp])) ⟨h, a1⟩ ⟨y, hy, .refl _⟩
  have hdp : ∀ y ∈ Y, ¬ A y xp = true := fun y hy h => longer (x1 :: (I ++ [xp, y])) (by
    show ch (tr A) ((x1 :: I) ++ [xp, y])
    rw [ch_snoc]
    exact ⟨a1, by rw [tr, hA]; exact h⟩) ⟨y, hy, by
    rw [show x1 :: (I ++ [xp, y]) = (x1 :: (I ++ [xp])) ++ [y] by simp]
    exact List.perm_append_comm⟩
  have hdm : ∀ P u v Q, I = P ++ u :: v :: Q → ∀ y ∈ Y, ¬ (A y u = true ∧ A y v = true) := by
    rintro P u v Q rfl y hy ⟨hu, hv⟩
    have e1 : x1 :: ((P ++ u :: v :: Q) ++ [xp]) = (x1 :: P) ++ u :: v :: (Q ++ [xp]) := by simp
    rw [e1, ch_split] at a1
    refine longer ((x1 :: P) ++ u :: y :: v :: (Q ++ [xp])) ?_ ⟨y, hy, ?_⟩
    · rw [ch_split]
      exact ⟨a1.1, by rw [tr, hA]; exact hu, hv, a1.2.2⟩
    · rw [e1]
      have : (x1 :: P) ++ u :: y :: v :: (Q ++ [xp]) = ((x1 :: P) ++ [u]) ++ y :: v :: (Q ++ [xp]) := by simp
      rw [this]
      refine List.perm_middle.trans (.cons _ ?_)
      rw [List.append_assoc]; exact .refl _
  have F : Fact (tr B) x1 xp I Y := by
    refine ⟨fun a b h => by rw [tr, hB]; exact h, ?_, fun y hy => other y hy x1 (by simp) (hd1 y hy), fun y hy => other y hy xp (by simp) (hdp y hy), fun P u v Q e y hy => ?_⟩
    · have h0 : (Y ++ (x1 :: (I ++ [xp]))).Nodup := List.nodup_append.2 ⟨hYn, a2, fun a ha b hb e => (hYm a ha).2 (e ▸ hb)⟩
      refine nd_perm ?_ h0
      have p1 : (x1 :: xp :: (I ++ Y)).Perm ((x1 :: xp :: I) ++ Y) := .refl _
      refine p1.trans (List.perm_append_comm.trans (List.Perm.append_left Y (.cons _ ?_)))
      exact (List.perm_append_comm (l₁ := [xp]) (l₂ := I))
    · have h1 := hdm P u v Q e y hy
      by_cases hu : A y u = true
      · exact .inr (other y hy v (by rw [e]; simp) fun hv => h1 ⟨hu, hv⟩)
      · exact .inl (other y hy u (by rw [e]; simp) hu)
  obtain ⟨W, w1, w2, w3, w4⟩ := ger F (q := q) (fun e => by rw [e] at hYl; simp at hYl; omega) (by omega) (by omega) (by omega)
  have := b5 W w1 w2 fun z hz => by
    rcases w4 z hz with rfl | rfl | h | h
    · exact hx1
    · exact hxp
    · exact a3 z (by simp [h])
    · exact (hYm z h).1
  omega
/-- In two colours the longest paths are as long as the number of paths says. -/
theorem two_paths (hn : 1 ≤ n) (hA : ∀ a b, A a b = A b a) (hB : ∀ a b, B a b = B b a) (hAB : ∀ a b : Int, 0 ≤ a → a < n → 0 ≤ b → b < n → a ≠ b → A a b = true ∨ B a b = true) :
    n + 1 ≤ max (lp A n).length (lp B n).length + (min (lp A n).length (lp B n).length + 1) / 2 := by
  rcases Nat.le_total (lp B n).length (lp A n).length with h | h
  · rw [Nat.max_eq_left h, Nat.min_eq_right h]
    exact two_paths' hn hA hB hAB h
  · rw [Nat.max_eq_right h, Nat.min_eq_left h]
    exact two_paths' hn hB hA (fun a b h0 h1 h2 h3 h4 => (hAB a b h0 h1 h2 h3 h4).symm) h
end
end Go.Proofs.Ytghhnpdhehjlaaa
