/- Facts of the draws' generator: what lies 2^20, 2^33 and 2^56 draws behind. Plain arithmetic, no program. No conditions. -/
import Derived.Test.YtfhdihekehlkiaaGreatDoorAb1
set_option linter.unusedVariables false
set_option linter.unusedSimpArgs false
namespace Go.Proofs.YtfhdihekehlkiaaGreatDoor
open Go

def itf (f : Nat → Nat) : Nat → Nat → Nat
  | 0, h => h
  | n + 1, h => itf f n (f h)
theorem itf_succ (f : Nat → Nat) (n h : Nat) : itf f (n + 1) h = itf f n (f h) := by rw [itf]
theorem itf_add (f : Nat → Nat) (m n h : Nat) : itf f (m + n) h = itf f n (itf f m h) := by
  induction m generalizing h with
  | zero => rw [Nat.zero_add, itf]
  | succ m ih => rw [Nat.succ_add, Nat.succ_eq_add_one, itf_succ, itf_succ, ih]
theorem itf_one (f : Nat → Nat) (h : Nat) : itf f 1 h = f h := by rw [itf, itf]
def nx (h : Nat) : Nat := (h * 6364136223846793005 + 1442695040888963407) % 18446744073709551616
def it (n h : Nat) : Nat := itf nx n h
def vl (h : Nat) : Nat := h / 8589934592 % 16777216
def gd (h : Nat) : Prop := vl h % 3 = 0

theorem it_add (m n h : Nat) : it (m + n) h = it n (it m h) := by
  unfold it
  exact itf_add nx m n h
theorem it_zero (h : Nat) : it 0 h = h := by unfold it; rw [itf]
theorem it_one (h : Nat) : it 1 h = nx h := by unfold it; exact itf_one nx h
theorem it_succ (n h : Nat) : it (n + 1) h = it n (nx h) := by unfold it; exact itf_succ nx n h

def Aff (e A C : Nat) : Prop := ∀ z, it e z % 144115188075855872 = (A * z + C) % 144115188075855872

theorem Aff.dbl {e A C A2 C2 : Nat} (e2 : Nat) (he : e + e = e2) (h : Aff e A C) (hA : A * A % 144115188075855872 = A2) (hC : (A * C + C) % 144115188075855872 = C2) : Aff e2 A2 C2 := by
  intro z
  rw [← he, it_add, h (it e z)]
  have h1 : (A * it e z + C) % 144115188075855872 = (A * (A * z + C) + C) % 144115188075855872 := by
    rw [Nat.add_mod, Nat.mul_mod, h z, ← Nat.mul_mod, ← Nat.add_mod]
  have h2 : A * (A * z + C) + C = A * A * z + (A * C + C) := by
    rw [Nat.mul_add, Nat.mul_assoc, Nat.add_assoc]
  rw [h1, h2, ← hA, ← hC, Nat.add_mod, Nat.mul_mod, ← Nat.mod_mod (A * A), ← Nat.mul_mod, ← Nat.mod_mod (A * C + C), ← Nat.add_mod]
  simp only [Nat.mod_mod]

theorem aff0 : Aff 1 23067948509134637 1543160130404687 := by
  intro z
  rw [it_one]
  unfold nx
  omega
theorem aff1 : Aff 2 26907944365829609 2513558822350130 := aff0.dbl _ (by decide) (by decide) (by decide)
theorem aff2 : Aff 4 93795916333628945 51258035923884468 := aff1.dbl _ (by decide) (by decide) (by decide)
theorem aff3 : Aff 8 116489267882048801 81477721053882024 := aff2.dbl _ (by decide) (by decide) (by decide)
theorem aff4 : Aff 16 98566667069210177 44106070908971600 := aff3.dbl _ (by decide) (by decide) (by decide)
theorem aff5 : Aff 32 20294252598168705 117428531195103392 := aff4.dbl _ (by decide) (by decide) (by decide)
theorem aff6 : Aff 64 10673781576915201 87064468879466816 := aff5.dbl _ (by decide) (by decide) (by decide)
theorem aff7 : Aff 128 108315138994188801 141109832899625600 := aff6.dbl _ (by decide) (by decide) (by decide)
theorem aff8 : Aff 256 2126514927395841 77485359592965376 := aff7.dbl _ (by decide) (by decide) (by decide)
theorem aff9 : Aff 512 115628284586674177 32836076315740672 := aff8.dbl _ (by decide) (by decide) (by decide)
theorem aff10 : Aff 1024 5666581573898241 72267226107614208 := aff9.dbl _ (by decide) (by decide) (by decide)
theorem aff11 : Aff 2048 68145684617568257 47208048633587712 := aff10.dbl _ (by decide) (by decide) (by decide)
theorem aff12 : Aff 4096 44017053890658305 120404064930385920 := aff11.dbl _ (by decide) (by decide) (by decide)
theorem aff13 : Aff 8192 132865590865723393 61414204768296960 := aff12.dbl _ (by decide) (by decide) (by decide)
theorem aff14 : Aff 16384 117578570852270081 119869296523427840 := aff13.dbl _ (by decide) (by decide) (by decide)
theorem aff15 : Aff 32768 49137302046375937 36112128737968128 := aff14.dbl _ (by decide) (by decide) (by decide)
theorem aff16 : Aff 65536 12846690963030017 29241311404294144 := aff15.dbl _ (by decide) (by decide) (by decide)
theorem aff17 : Aff 131072 53276898851553281 5896228647337984 := aff16.dbl _ (by decide) (by decide) (by decide)
theorem aff18 : Aff 262144 715083291295745 35634061272940544 := aff17.dbl _ (by decide) (by decide) (by decide)
theorem aff19 : Aff 524288 10420873162915841 22519350383083520 := aff18.dbl _ (by decide) (by decide) (by decide)
theorem aff20 : Aff 1048576 56804572647129089 138273988266688512 := aff19.dbl _ (by decide) (by decide) (by decide)
theorem aff21 : Aff 2097152 113345262503591937 73028374232039424 := aff20.dbl _ (by decide) (by decide) (by decide)
theorem aff22 : Aff 4194304 81519805768663041 52554279638007808 := aff21.dbl _ (by decide) (by decide) (by decide)
theorem aff23 : Aff 8388608 14702298810810369 19329060123443200 := aff22.dbl _ (by decide) (by decide) (by decide)
theorem aff24 : Aff 16777216 12516099018981377 127885687864164352 := aff23.dbl _ (by decide) (by decide) (by decide)
theorem aff25 : Aff 33554432 101593391703261185 36220893894017024 := aff24.dbl _ (by decide) (by decide) (by decide)
theorem aff26 : Aff 67108864 77085993840148481 58930988905922560 := aff25.dbl _ (by decide) (by decide) (by decide)
theorem aff27 : Aff 134217728 82114393642369025 63818782283399168 := aff26.dbl _ (by decide) (by decide) (by decide)
theorem aff28 : Aff 268435456 20113599208882177 55579970528870400 := aff27.dbl _ (by decide) (by decide) (by decide)
theorem aff29 : Aff 536870912 40227198417764353 111159941057740800 := aff28.dbl _ (by decide) (by decide) (by decide)
theorem aff30 : Aff 1073741824 80454396835528705 78204694039625728 := aff29.dbl _ (by decide) (by decide) (by decide)
theorem aff31 : Aff 2147483648 16793605595201537 12294200003395584 := aff30.dbl _ (by decide) (by decide) (by decide)
theorem aff32 : Aff 4294967296 33587211190403073 24588400006791168 := aff31.dbl _ (by decide) (by decide) (by decide)
theorem aff33 : Aff 8589934592 67174422380806145 49176800013582336 := aff32.dbl _ (by decide) (by decide) (by decide)
theorem aff34 : Aff 17179869184 134348844761612289 98353600027164672 := aff33.dbl _ (by decide) (by decide) (by decide)
theorem aff35 : Aff 34359738368 124582501447368705 52592011978473472 := aff34.dbl _ (by decide) (by decide) (by decide)
theorem aff36 : Aff 68719476736 105049814818881537 105184023956946944 := aff35.dbl _ (by decide) (by decide) (by decide)
theorem aff37 : Aff 137438953472 65984441561907201 66252859838038016 := aff36.dbl _ (by decide) (by decide) (by decide)
theorem aff38 : Aff 274877906944 131968883123814401 132505719676076032 := aff37.dbl _ (by decide) (by decide) (by decide)
theorem aff39 : Aff 549755813888 119822578171772929 120896251276296192 := aff38.dbl _ (by decide) (by decide) (by decide)
theorem aff40 : Aff 1099511627776 95529968267689985 97677314476736512 := aff39.dbl _ (by decide) (by decide) (by decide)
theorem aff41 : Aff 2199023255552 46944748459524097 51239440877617152 := aff40.dbl _ (by decide) (by decide) (by decide)
theorem aff42 : Aff 4398046511104 93889496919048193 102478881755234304 := aff41.dbl _ (by decide) (by decide) (by decide)
theorem aff43 : Aff 8796093022208 43663805762240513 60842575434612736 := aff42.dbl _ (by decide) (by decide) (by decide)
theorem aff44 : Aff 17592186044416 87327611524481025 121685150869225472 := aff43.dbl _ (by decide) (by decide) (by decide)
theorem aff45 : Aff 35184372088832 30540034973106177 99255113662595072 := aff44.dbl _ (by decide) (by decide) (by decide)
theorem aff46 : Aff 70368744177664 61080069946212353 54395039249334272 := aff45.dbl _ (by decide) (by decide) (by decide)
theorem aff47 : Aff 140737488355328 122160139892424705 108790078498668544 := aff46.dbl _ (by decide) (by decide) (by decide)
theorem aff48 : Aff 281474976710656 100205091708993537 73464968921481216 := aff47.dbl _ (by decide) (by decide) (by decide)
theorem aff49 : Aff 562949953421312 56294995342131201 2814749767106560 := aff48.dbl _ (by decide) (by decide) (by decide)
theorem aff50 : Aff 1125899906842624 112589990684262401 5629499534213120 := aff49.dbl _ (by decide) (by decide) (by decide)
theorem aff51 : Aff 2251799813685248 81064793292668929 11258999068426240 := aff50.dbl _ (by decide) (by decide) (by decide)
theorem aff52 : Aff 4503599627370496 18014398509481985 22517998136852480 := aff51.dbl _ (by decide) (by decide) (by decide)
theorem aff53 : Aff 9007199254740992 36028797018963969 45035996273704960 := aff52.dbl _ (by decide) (by decide) (by decide)
theorem aff54 : Aff 18014398509481984 72057594037927937 90071992547409920 := aff53.dbl _ (by decide) (by decide) (by decide)
theorem aff55 : Aff 36028797018963968 1 36028797018963968 := aff54.dbl _ (by decide) (by decide) (by decide)
theorem aff56 : Aff 72057594037927936 1 72057594037927936 := aff55.dbl _ (by decide) (by decide) (by decide)

theorem vl_of {y z W : Nat} (h : y % 144115188075855872 = (z + 8589934592 * W) % 144115188075855872) : vl y = (vl z + W) % 16777216 := by
  unfold vl; omega

/-- What a draw is moved by, 2^33 draws later. -/
def mv (z : Nat) : Nat := 7820132 * z + 5724933
theorem far (z : Nat) : vl (it 8589934592 z) = (vl z + mv z) % 16777216 := by
  refine vl_of ?_
  rw [aff33 z, show 67174422380806145 * z + 49176800013582336 = z + 8589934592 * mv z by unfold mv; omega]
theorem far_ar (v m : Nat) (hv : v < 16777216) (h1 : v % 3 = 0) (h2 : (v + m) % 16777216 % 3 = 0) : m % 16777216 % 3 ≠ 2 := by
  have hm : m % 16777216 < 16777216 := Nat.mod_lt _ (by decide)
  rw [← Nat.add_mod_mod] at h2
  generalize m % 16777216 = a at *
  rcases Nat.lt_or_ge (v + a) 16777216 with h | h
  · rw [Nat.mod_eq_of_lt h] at h2; omega
  · rw [Nat.mod_eq_sub_mod h, Nat.mod_eq_of_lt (show v + a - 16777216 < 16777216 by omega)] at h2; omega
theorem vl_lt (z : Nat) : vl z < 16777216 := by unfold vl; omega
theorem far_gd {z : Nat} (h1 : gd z) (h2 : gd (it 8589934592 z)) : mv z % 16777216 % 3 ≠ 2 := by
  unfold gd at h1 h2
  rw [far] at h2
  exact far_ar _ _ (vl_lt z) h1 h2
theorem mv_near (z : Nat) : mv (it 1048576 z) % 16777216 = (mv z + 1 * 4194304) % 16777216 := by
  have h := aff20 z
  generalize it 1048576 z = y at h
  unfold mv
  have h2 : y % 4194304 = (z + 138273988266688512) % 4194304 := by
    have : y % 144115188075855872 % 4194304 = (56804572647129089 * z + 138273988266688512) % 144115188075855872 % 4194304 := by rw [h]
    omega
  omega
theorem quart (r : Nat) (hr : r < 16777216) (h0 : r % 3 ≠ 2) (h1 : (r + 4194304) % 16777216 % 3 ≠ 2) (h2 : (r + 8388608) % 16777216 % 3 ≠ 2) (h3 : (r + 12582912) % 16777216 % 3 ≠ 2) : False := by
  rcases Nat.lt_or_ge r 4194304 with h | h
  · rw [Nat.mod_eq_of_lt (show r + 4194304 < 16777216 by omega)] at h1
    rw [Nat.mod_eq_of_lt (show r + 8388608 < 16777216 by omega)] at h2
    omega
  rcases Nat.lt_or_ge r 8388608 with h' | h'
  · rw [Nat.mod_eq_of_lt (show r + 4194304 < 16777216 by omega)] at h1
    rw [Nat.mod_eq_of_lt (show r + 8388608 < 16777216 by omega)] at h2
    omega
  rcases Nat.lt_or_ge r 12582912 with h'' | h''
  · rw [Nat.mod_eq_of_lt (show r + 4194304 < 16777216 by omega)] at h1
    rw [show (r + 12582912) % 16777216 = r + 12582912 - 16777216 by omega] at h3
    omega
  · rw [show (r + 8388608) % 16777216 = r + 8388608 - 16777216 by omega] at h2
    rw [show (r + 12582912) % 16777216 = r + 12582912 - 16777216 by omega] at h3
    omega
theorem run4 (z : Nat) (h : ∀ k, k < 4 → gd (it (k * 1048576) z) ∧ gd (it (k * 1048576 + 8589934592) z)) : False := by
  have e : ∀ k, k < 4 → mv (it (k * 1048576) z) % 16777216 % 3 ≠ 2 := fun k hk => by
    obtain ⟨h1, h2⟩ := h k hk
    rw [it_add] at h2
    exact far_gd h1 h2
  have e0 := e 0 (by omega)
  have e1 := e 1 (by omega)
  have e2 := e 2 (by omega)
  have e3 := e 3 (by omega)
  rw [show 0 * 1048576 = 0 from rfl] at e0
  rw [show 1 * 1048576 = 1048576 from rfl] at e1
  rw [show 2 * 1048576 = 1048576 + 1048576 from rfl, it_add] at e2
  rw [show 3 * 1048576 = 1048576 + (1048576 + 1048576) from rfl, it_add, it_add] at e3
  have g1 := mv_near z
  have g2 := mv_near (it 1048576 z)
  have g3 := mv_near (it 1048576 (it 1048576 z))
  rw [it_zero] at e0
  generalize mv z = a at *
  generalize mv (it 1048576 z) = b at *
  generalize mv (it 1048576 (it 1048576 z)) = c at *
  generalize mv (it 1048576 (it 1048576 (it 1048576 z))) = d at *
  have f1 : b % 16777216 = (a % 16777216 + 4194304) % 16777216 := by omega
  have f2 : c % 16777216 = (a % 16777216 + 8388608) % 16777216 := by omega
  have f3 : d % 16777216 = (a % 16777216 + 12582912) % 16777216 := by omega
  rw [f1] at e1
  rw [f2] at e2
  rw [f3] at e3
  exact quart (a % 16777216) (by omega) e0 e1 e2 e3
/-- Half a round later no draw is good that was good. -/
theorem half {z : Nat} (h1 : gd z) (h2 : gd (it 72057594037927936 z)) : False := by
  have e := vl_of (y := it 72057594037927936 z) (z := z) (W := 8388608) (by rw [show 8589934592 * 8388608 = 72057594037927936 from by decide, aff56 z, Nat.one_mul])
  unfold gd at h1 h2
  rw [e] at h2
  exact far_ar _ 8388608 (vl_lt z) h1 h2 (by decide)

/-- A way through the draws that goes on by 2 or 4 and meets good draws only. -/
def Way (z : Nat) (p : Nat → Nat) (K : Nat) : Prop := p 0 = 0 ∧ ∀ i, i < K → gd (it (p i) z) ∧ (p (i + 1) = p i + 2 ∨ p (i + 1) = p i + 4)

theorem Way.low {z K : Nat} {p : Nat → Nat} (h : Way z p K) : ∀ i, i ≤ K → 2 * i ≤ p i ∧ p i % 2 = 0 ∧ p i ≤ 4 * i := by
  intro i
  induction i with
  | zero => intro _; rw [h.1]; simp
  | succ i ih =>
    intro hi
    obtain ⟨a, b, c⟩ := ih (by omega)
    rcases (h.2 i (by omega)).2 with e | e <;> rw [e] <;> omega

theorem Way.cross {z K : Nat} {p : Nat → Nat} (h : Way z p K) (T : Nat) (hT : T % 2 = 0) : ∀ d i, i + d = K → p i ≤ T + 2 → T + 2 < p K → ∃ j, j < K ∧ (p j = T ∨ p j = T + 2) := by
  intro d
  induction d with
  | zero => intro i hi h1 h2; rw [show i = K by omega] at h1; omega
  | succ d ih =>
    intro i hi h1 h2
    by_cases hn : p (i + 1) ≤ T + 2
    · exact ih (i + 1) (by omega) hn h2
    · have hl := h.low i (by omega)
      refine ⟨i, by omega, ?_⟩
      rcases (h.2 i (by omega)).2 with e | e <;> omega

theorem no_way (z : Nat) (p : Nat → Nat) (K : Nat) (hK : 144115188075855874 ≤ K) : ¬ Way z p K := by
  intro h
  have bad : ∀ i j, i < K → j < K → p j = p i + 72057594037927936 → False := fun i j hi hj e => by
    have h1 := (h.2 i hi).1
    have h2 := (h.2 j hj).1
    rw [e, it_add] at h2
    exact half h1 h2
  by_cases hs : ∃ i, i < 18014398509481984 ∧ p (i + 1) = p i + 2
  · obtain ⟨i, hi, e⟩ := hs
    have hl := h.low i (by omega)
    have hKl := h.low K (Nat.le_refl _)
    obtain ⟨j, hj, e2⟩ := h.cross (p i + 72057594037927936) (by omega) (K - i) i (by omega) (by omega) (by omega)
    rcases e2 with e2 | e2
    · exact bad i j (by omega) hj e2
    · exact bad (i + 1) j (by omega) hj (by omega)
  · have hf : ∀ i, i ≤ 18014398509481984 → p i = 4 * i := by
      intro i
      induction i with
      | zero => intro _; exact h.1
      | succ i ih =>
        intro hi
        rcases (h.2 i (by omega)).2 with e | e
        · exact absurd ⟨i, by omega, e⟩ hs
        · rw [e, ih (by omega)]; omega
    exact bad 0 18014398509481984 (by omega) (by omega) (by rw [hf _ (Nat.le_refl _), h.1])
end Go.Proofs.YtfhdihekehlkiaaGreatDoor
