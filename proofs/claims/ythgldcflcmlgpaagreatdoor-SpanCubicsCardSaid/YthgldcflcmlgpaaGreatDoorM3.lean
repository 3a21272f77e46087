import Derived.Test.YthgldcflcmlgpaaGreatDoorM0
import Derived.Test.YthgldcflcmlgpaaGreatDoorM1
import Derived.Test.YthgldcflcmlgpaaGreatDoorM2
section
/- Plain laws for the document's naturals: a bit of a list, twice a list, a division's step, the odd part. -/
set_option linter.unusedVariables false
set_option linter.unusedSimpArgs false
namespace Go.Proofs.YthgldcflcmlgpaaGreatDoorE
open Go.RowKit
/-! ### a bit of a list -/
theorem zom (i : Nat) : (4294967296 : Nat) ^ i = 2 ^ (32 * i) := by rw [show (4294967296 : Nat) = 2 ^ 32 from rfl, ← Nat.pow_mul]
theorem zoq {a : List Nat} (ha : wf a) (i : Nat) : val a / 4294967296 ^ i % 4294967296 = a.getD i 0 := by
  by_cases h : i < a.length
  · have hc := zef a i (by omega)
    have hl := zax (zdm ha i)
    rw [List.length_take, Nat.min_eq_left (by omega)] at hl
    have hd : a.drop i = a[i] :: a.drop (i + 1) := List.drop_eq_getElem_cons h
    have hp : 0 < (4294967296 : Nat) ^ i := Nat.pow_pos (by decide)
    rw [hc, Nat.add_mul_div_left _ _ hp, Nat.div_eq_of_lt hl, Nat.zero_add, hd]
    simp only [val]
    have := ha _ (List.getElem_mem h)
    rw [List.getD_eq_getElem?_getD, List.getElem?_eq_getElem h, Option.getD_some]
    omega
  · have hl := zax ha
    have : val a < 4294967296 ^ i := Nat.lt_of_lt_of_le hl (Nat.pow_le_pow_right (by decide) (by omega))
    rw [Nat.div_eq_of_lt this, List.getD_eq_getElem?_getD, List.getElem?_eq_none (by omega)]; rfl
theorem zri {a : List Nat} (ha : wf a) (i : Nat) : a.getD (i / 32) 0 / 2 ^ (i % 32) % 2 = val a / 2 ^ i % 2 := by
  rw [← zoq ha, zom]
  have e : i = 32 * (i / 32) + i % 32 := (Nat.div_add_mod i 32).symm
  have hr : i % 32 < 32 := Nat.mod_lt _ (by decide)
  generalize i / 32 = q at *
  generalize i % 32 = r at *
  subst e
  rw [Nat.pow_add, ← Nat.div_div_eq_div_mul]
  generalize val a / 2 ^ (32 * q) = v
  have h2 : (4294967296 : Nat) = 2 ^ r * 2 ^ (32 - r) := by rw [← Nat.pow_add, show r + (32 - r) = 32 by omega]
  rw [h2, Nat.mod_mul_right_div_self]
  have h3 : 2 ∣ 2 ^ (32 - r) := ⟨2 ^ (31 - r), by rw [← Nat.pow_succ']; congr 1; omega⟩
  exact Nat.mod_mod_of_dvd _ h3
/-! ### twice a list, and one more -/
def dblL : List Nat → Nat → List Nat
  | [], _ => []
  | x :: r, c => (x * 2 + c) % 4294967296 :: dblL r (x / 2147483648)
theorem zkw : ∀ (a : List Nat) (c : Nat), (dblL a c).length = a.length
  | [], _ => rfl
  | x :: r, c => by simp [dblL, zkw r]
theorem zmh : ∀ (a : List Nat) (c : Nat), wf (dblL a c)
  | [], _ => zfk
  | x :: r, c => wf_cons.2 ⟨Nat.mod_lt _ (by decide), zmh r _⟩
theorem zjs : ∀ (a : List Nat) (c : Nat), wf a → c < 2 → 2 * val a + c < 4294967296 ^ a.length → val (dblL a c) = 2 * val a + c
  | [], c, _, _, h => by simp [val] at h; simp [dblL, val]; omega
  | x :: r, c, ha, hc, h => by
    obtain ⟨h1, h2⟩ := wf_cons.1 ha
    simp only [val, List.length_cons, Nat.pow_succ] at h
    have ih := zjs r (x / 2147483648) h2 (by omega) (by
      have := h
      generalize 4294967296 ^ r.length = P at *
      omega)
    simp only [dblL, val]
    rw [ih]
    omega
/-! ### a step of a division, bit by bit -/
theorem div_bit {A v : Nat} (hv : 0 < v) (i : Nat) : let R := A / 2 ^ (i + 1) % v; let b := A / 2 ^ i % 2;
    (2 * R + b < v → A / 2 ^ i % v = 2 * R + b ∧ A / 2 ^ i / v = 2 * (A / 2 ^ (i + 1) / v)) ∧ (v ≤ 2 * R + b → A / 2 ^ i % v = 2 * R + b - v ∧ A / 2 ^ i / v = 2 * (A / 2 ^ (i + 1) / v) + 1) := by
  intro R b
  have e : A / 2 ^ i = 2 * (A / 2 ^ (i + 1)) + b := by
    have : A / 2 ^ (i + 1) = A / 2 ^ i / 2 := by rw [Nat.pow_succ, Nat.div_div_eq_div_mul]
    rw [this]; omega
  have hb : b < 2 := Nat.mod_lt _ (by decide)
  have hR : R < v := Nat.mod_lt _ hv
  have hm := Nat.div_add_mod (A / 2 ^ (i + 1)) v
  change v * (A / 2 ^ (i + 1) / v) + R = _ at hm
  generalize A / 2 ^ (i + 1) = h at *
  generalize A / 2 ^ i = g at *
  generalize h / v = Q at *
  clear_value R b
  have key : ∀ q r : Nat, r < v → g = v * q + r → g % v = r ∧ g / v = q := by
    intro q r hr hg
    rw [hg, Nat.mul_add_mod, Nat.mod_eq_of_lt hr, Nat.mul_add_div hv, Nat.div_eq_of_lt hr]
    exact ⟨rfl, by omega⟩
  have e2 : v * (2 * Q) = 2 * (v * Q) := Nat.mul_left_comm _ _ _
  constructor
  · intro h1; exact key _ _ h1 (by rw [e2]; omega)
  · intro h1; exact key _ _ (by omega) (by rw [Nat.mul_add, e2]; omega)
/-! ### halved as often as it goes -/
def tz (n : Nat) : Nat := if n = 0 ∨ n % 2 = 1 then 0 else tz (n / 2) + 1
termination_by n
decreasing_by omega
def oddP (n : Nat) : Nat := n / 2 ^ tz n
theorem zpe {n : Nat} (h : n % 2 = 1) : tz n = 0 := by unfold tz; rw [if_pos (.inr h)]
theorem zju {n : Nat} (h0 : n ≠ 0) (h : n % 2 = 0) : tz n = tz (n / 2) + 1 := by conv => lhs; unfold tz; rw [if_neg (by omega)]
theorem zei (n : Nat) : oddP n * 2 ^ tz n = n := by
  induction n using Nat.strongRecOn with
  | _ n ih =>
    by_cases h : n = 0 ∨ n % 2 = 1
    · unfold oddP; conv => lhs; unfold tz
      rw [if_pos h]; simp
    · have := ih (n / 2) (by omega)
      unfold oddP at *
      rw [zju (by omega) (by omega), Nat.pow_succ', ← Nat.div_div_eq_div_mul, Nat.mul_comm 2, ← Nat.mul_assoc, this]
      omega
theorem zcs {n : Nat} (h0 : n ≠ 0) : oddP n % 2 = 1 := by
  induction n using Nat.strongRecOn with
  | _ n ih =>
    by_cases h : n % 2 = 1
    · unfold oddP; rw [zpe h]; simpa using h
    · have := ih (n / 2) (by omega) (by omega)
      unfold oddP at *
      rw [zju (by omega) (by omega), Nat.pow_succ', ← Nat.div_div_eq_div_mul]
      exact this
theorem zhb {n : Nat} (h0 : n ≠ 0) : 0 < oddP n := by have := zcs h0; omega
theorem zmp (n : Nat) : oddP n ≤ n := Nat.div_le_self _ _
theorem zjf {n : Nat} (k : Nat) (h : n ≠ 0) : tz (n * 2 ^ k) = tz n + k ∧ oddP (n * 2 ^ k) = oddP n := by
  have ht : tz (n * 2 ^ k) = tz n + k := by
    induction k with
    | zero => simp
    | succ k ih =>
      have hp : 0 < n * 2 ^ k := Nat.mul_pos (by omega) (Nat.pow_pos (by decide))
      have e : n * 2 ^ (k + 1) = 2 * (n * 2 ^ k) := by rw [Nat.pow_succ']; exact Nat.mul_left_comm _ _ _
      rw [e, zju (by omega) (by omega), Nat.mul_div_cancel_left _ (by decide), ih]; omega
  refine ⟨ht, ?_⟩
  unfold oddP
  rw [ht, Nat.pow_add, Nat.mul_comm (2 ^ tz n), ← Nat.div_div_eq_div_mul, Nat.mul_div_cancel _ (Nat.pow_pos (by decide))]
theorem zid {a y : Nat} (k : Nat) (hy : y % 2 = 1) : Nat.gcd (a * 2 ^ k) y = Nat.gcd a y := by
  have h2 : Nat.Coprime 2 y := by
    unfold Nat.Coprime
    have : Nat.gcd 2 y ∣ 2 := Nat.gcd_dvd_left 2 y
    have h3 : Nat.gcd 2 y ∣ y := Nat.gcd_dvd_right 2 y
    have h4 : Nat.gcd 2 y ≤ 2 := Nat.le_of_dvd (by decide) this
    have h5 : Nat.gcd 2 y ≠ 2 := fun e => by rw [e] at h3; omega
    have h6 : Nat.gcd 2 y ≠ 0 := fun e => by rw [Nat.gcd_eq_zero_iff] at e; omega
    omega
  exact Nat.Coprime.gcd_mul_right_cancel a (Nat.Coprime.pow_left k h2)
theorem gcd_oddP {x y : Nat} (hy : y % 2 = 1) : Nat.gcd (oddP x) y = Nat.gcd x y := by
  conv => rhs; rw [← zei x]
  exact (zid _ hy).symm
theorem gcd_parts {a b : Nat} (ha : a ≠ 0) (hb : b ≠ 0) : Nat.gcd (oddP a) (oddP b) * 2 ^ min (tz a) (tz b) = Nat.gcd a b := by
  have key : ∀ (x y m n : Nat), x % 2 = 1 → y % 2 = 1 → m ≤ n → Nat.gcd x y * 2 ^ m = Nat.gcd (x * 2 ^ m) (y * 2 ^ n) := by
    intro x y m n hx hy hmn
    obtain ⟨d, rfl⟩ : ∃ d, n = d + m := ⟨n - m, by omega⟩
    rw [Nat.pow_add, ← Nat.mul_assoc, Nat.gcd_mul_right, Nat.gcd_comm x (y * 2 ^ d), zid d hx, Nat.gcd_comm]
  conv => rhs; rw [← zei a, ← zei b]
  rcases Nat.le_total (tz a) (tz b) with h | h
  · rw [Nat.min_eq_left h]; exact key _ _ _ _ (zcs ha) (zcs hb) h
  · rw [Nat.min_eq_right h, Nat.gcd_comm, Nat.gcd_comm (oddP a * _)]; exact key _ _ _ _ (zcs hb) (zcs ha) h
/-! ### word by word -/
theorem zdr (a : List Nat) (i : Nat) : val (a.take (i + 1)) = val (a.take i) + 4294967296 ^ i * a.getD i 0 := by
  by_cases h : i < a.length
  · exact zed h
  · rw [List.take_of_length_le (by omega), List.take_of_length_le (by omega), List.getD_eq_getElem?_getD, List.getElem?_eq_none (by omega)]; simp
theorem zgf {X : List Nat} {i : Nat} (v : Nat) (h : i < X.length) : val (X.set i v) + 4294967296 ^ i * X.getD i 0 = val X + 4294967296 ^ i * v := by
  rw [List.set_eq_take_append_cons_drop, if_pos h, zdn, List.length_take, Nat.min_eq_left (by omega)]
  conv => rhs; rw [zef X i (by omega), zaz h]
  simp only [val]
  rw [Nat.mul_add, Nat.mul_add]
  omega
theorem ziq {X : List Nat} (h : wf X) (i : Nat) {v : Nat} (hv : v < 4294967296) : wf (X.set i v) := fun x hx => by
  rcases List.mem_or_eq_of_mem_set hx with h1 | h1
  · exact h x h1
  · omega
theorem zdf {X : List Nat} {i j v : Nat} (h : j ≠ i) : (X.set i v).getD j 0 = X.getD j 0 := by
  simp [List.getD_eq_getElem?_getD, List.getElem?_set_ne (fun e => h e.symm)]
theorem zjp (P s : Nat) : P * (s % 4294967296) + P * 4294967296 * (s / 4294967296) = P * s := by
  rw [Nat.mul_assoc, ← Nat.mul_add, Nat.mod_add_div]
theorem zey (a : List Nat) (n j : Nat) : (a ++ List.replicate n 0).getD j 0 = a.getD j 0 := by
  by_cases h : j < a.length
  · simp [List.getD_eq_getElem?_getD, List.getElem?_append_left h]
  · rw [List.getD_eq_getElem?_getD, List.getElem?_append_right (by omega), ← List.getD_eq_getElem?_getD, zcw, List.getD_eq_getElem?_getD, List.getElem?_eq_none (by omega)]; rfl
theorem zjr (a : List Nat) (n : Nat) : val (a ++ List.replicate n 0) = val a := by rw [zdn, zce]; simp
theorem zqn {a : List Nat} (h : wf a) (n : Nat) : wf (a ++ List.replicate n 0) := zir h (zck n)
theorem zoe {A B : List Nat} (h : A.length = B.length) (k : Nat) (hj : ∀ j, k ≤ j → A.getD j 0 = B.getD j 0) : A.drop k = B.drop k := by
  apply List.ext_getElem (by simp [h])
  intro i h1 h2
  simp only [List.length_drop] at h1 h2
  rw [List.getElem_drop, List.getElem_drop]
  have := hj (k + i) (by omega)
  rw [List.getD_eq_getElem?_getD, List.getD_eq_getElem?_getD, List.getElem?_eq_getElem (by omega), List.getElem?_eq_getElem (by omega)] at this
  exact this
theorem zld {a b : List Nat} (ha : wf a) (hb : wf b) {i : Nat} (hd : ∀ j, i + 1 ≤ j → a.getD j 0 = b.getD j 0) (hlt : a.getD i 0 < b.getD i 0) : val a < val b := by
  have hi : i < b.length := by
    apply Decidable.byContradiction; intro h
    rw [List.getD_eq_getElem?_getD (l := b), List.getElem?_eq_none (by omega)] at hlt
    simp at hlt
  have hA : i < (a ++ List.replicate b.length 0).length := by simp; omega
  have hB : i < (b ++ List.replicate a.length 0).length := by simp; omega
  rw [← zjr a b.length, ← zjr b a.length]
  refine zqg (zqn ha _) (zqn hb _) hA hB (zoe (by simp; omega) _ fun j hj => ?_) ?_
  · rw [zey, zey]; exact hd j hj
  · have e1 := zey a b.length i
    have e2 := zey b a.length i
    rw [List.getD_eq_getElem?_getD, List.getElem?_eq_getElem hA] at e1
    rw [List.getD_eq_getElem?_getD, List.getElem?_eq_getElem hB] at e2
    simp only [Option.getD_some] at e1 e2
    rw [e1, e2]; exact hlt
theorem val_eq_of {a b : List Nat} (hd : ∀ j, a.getD j 0 = b.getD j 0) : val a = val b := by
  rw [← zjr a b.length, ← zjr b a.length]
  have := zoe (A := a ++ List.replicate b.length 0) (B := b ++ List.replicate a.length 0) (by simp; omega) 0 (fun j _ => by rw [zey, zey]; exact hd j)
  rw [List.drop_zero, List.drop_zero] at this
  rw [this]
end Go.Proofs.YthgldcflcmlgpaaGreatDoorE
end
section
/- The document's naturals: Norm, At, Cmp, Same, Add, Sub, Of. -/
set_option linter.unusedVariables false
set_option linter.unusedSimpArgs false
namespace Go.Proofs.YthgldcflcmlgpaaGreatDoorE
open Go.RowKit
set_option maxRecDepth 100000
attribute [local simp] List.getElem?_cons_zero List.getElem?_cons_succ List.getElem?_nil wrap_i64 stOf st0 effF effC evalV evalL zfd zcr pv_t pv_c pv_g pv_f ofConst binV binI lenV foldV mx2 mn2 unV convV extractV idxV indexV fieldAddrV fieldV partV sliceV boundsV loadL live storeE appendE srcV litE makeE IntKind.bits copyE boxE allocE flatParts flatCs flatC allParts cellsOf solid leafB fillL frzL buildV fillP placeS eqFl eqCell St.eff St.put wrs callE renP renA renC renI nid newL renB noEff endK endR resA resL resV expP expA expC expN expL expBs expB idx thenQ blockQ wantK if_pos if_neg wrap_u32 zas beqI bneI w32 wl zar Int.natCast_inj
theorem znp (l : List Nat) (hw : wf l) (hl : l.length ≤ 35184372088000) : CallOk Tryz.prog 68 [wl l] [] (.sl ⟨0, 0, 0⟩ 1 0 (nw (val l)).length 1) [⟨1, true, true, ws (nw (val l))⟩] := by
  rw [← zba hw]
  refine CallOk.of_wl Tryz.func68 rfl rfl rfl (Nat.le_of_ble_eq_true rfl) ?_
  (repeat (first | with_reducible (first | refine WL.seq ?_ | refine WL.skip ?_ | refine WL.label ?_ | refine WL.block ?_ | refine WL.scope ?_ | refine WL.nilS ?_ | refine WL.reS ?_ | refine WL.exS ?_ | refine WL.nilB ?_ | refine WL.nilT ?_ | refine WL.exit ?_ | refine WL.ret ?_ | refine WL.exT ?_ | refine WL.exB ?_ | refine WL.exN rfl ?_ | refine WL.reT ?_ | refine WL.reB ?_) | ((first | refine WL.reg rfl ?_ | refine WL.regT zai rfl ?_); (conv => { arg 3; simp [prep, prep1] }); (repeat (first | (refine zae ?_ ?_; (focus (simp; done)); (conv => { arg 4; simp (disch := omega) [wl] }); (first | (first | refine zaa ?_ | (refine zac ?_; (conv => { arg 5; simp }))))) | (refine zab rfl ?_ ?_; (focus (simp; done))))); with_reducible refine zad ?_; (first | refine ⟨rfl, ?_⟩ | refine ⟨by simp [quietB], by simp [quietU], ?_⟩ | skip)) | (refine WL.cond ?_; (conv => { arg 1; simp (disch := omega) [wl] }); with_reducible (first | refine zaj ?_ | refine zak ?_ | refine zag (by omega) ?_ | refine zah (by omega) ?_))))
  refine WL.loop (fun m s => s.frame 0 = wl l ∧ m ≤ l.length ∧ s.frame 3 = .int .i64 m ∧ trimL l = trimL (l.take m)) l.length ?_ ?_
  · exact ⟨by simp [wl], by omega, by simp, by simp⟩
  rintro m ⟨f, σ, g⟩ ⟨h0, hm, h3, ht⟩
  simp only at h0 h3
  cases m with
  | zero =>
    have ht0 : trimL l = [] := by rw [ht]; simp [trimL]
    (repeat (first | with_reducible (first | refine WL.seq ?_ | refine WL.skip ?_ | refine WL.label ?_ | refine WL.block ?_ | refine WL.scope ?_ | refine WL.nilS ?_ | refine WL.reS ?_ | refine WL.exS ?_ | refine WL.nilB ?_ | refine WL.nilT ?_ | refine WL.exit ?_ | refine WL.ret ?_ | refine WL.exT ?_ | refine WL.exB ?_ | refine WL.exN rfl ?_ | refine WL.reT ?_ | refine WL.reB ?_) | ((first | refine WL.reg rfl ?_ | refine WL.regT zai rfl ?_); (conv => { arg 3; simp [prep, prep1] }); (repeat (first | (refine zae ?_ ?_; (focus (simp; done)); (conv => { arg 4; simp (disch := omega) [h0, h3, wl] }); (first | (first | refine zaa ?_ | (refine zac ?_; (conv => { arg 5; simp }))))) | (refine zab rfl ?_ ?_; (focus (simp; done))))); with_reducible refine zad ?_; (first | refine ⟨rfl, ?_⟩ | refine ⟨by simp [quietB], by simp [quietU], ?_⟩ | skip)) | (refine WL.cond ?_; (conv => { arg 1; simp (disch := omega) [h0, h3, wl] }); with_reducible (first | refine zaj ?_ | refine zak ?_ | refine zag (by omega) ?_ | refine zah (by omega) ?_))))
    refine ⟨[⟨18, g 18, 0⟩], ?_⟩
    simp (disch := omega) [idx, ht0, ws]
  | succ m =>
    have hlt : m < l.length := by omega
    by_cases hz : l[m]'hlt = 0
    · have hz' : (ws l)[m]? = some (w32 0) := by simp [ws, hlt, hz]
      (repeat (first | with_reducible (first | refine WL.seq ?_ | refine WL.skip ?_ | refine WL.label ?_ | refine WL.block ?_ | refine WL.scope ?_ | refine WL.nilS ?_ | refine WL.reS ?_ | refine WL.exS ?_ | refine WL.nilB ?_ | refine WL.nilT ?_ | refine WL.exit ?_ | refine WL.ret ?_ | refine WL.exT ?_ | refine WL.exB ?_ | refine WL.exN rfl ?_ | refine WL.reT ?_ | refine WL.reB ?_) | ((first | refine WL.reg rfl ?_ | refine WL.regT zai rfl ?_); (conv => { arg 3; simp [prep, prep1] }); (repeat (first | (refine zae ?_ ?_; (focus (simp; done)); (conv => { arg 4; simp (disch := omega) [h0, h3, wl, hz', w32] }); (first | (first | refine zaa ?_ | (refine zac ?_; (conv => { arg 5; simp }))))) | (refine zab rfl ?_ ?_; (focus (simp; done))))); with_reducible refine zad ?_; (first | refine ⟨rfl, ?_⟩ | refine ⟨by simp [quietB], by simp [quietU], ?_⟩ | skip)) | (refine WL.cond ?_; (conv => { arg 1; simp (disch := omega) [h0, h3, wl, hz', w32] }); with_reducible (first | refine zaj ?_ | refine zak ?_ | refine zag (by omega) ?_ | refine zah (by omega) ?_))))
      exact ⟨m, by omega, by simp [h0, wl], by omega, by simp, by rw [ht, zcf hlt hz]⟩
    · have hz' : (ws l)[m]? = some (w32 (l[m]'hlt)) := by simp [ws, hlt]
      have hne : ¬ ((l[m]'hlt : Nat) : Int) = 0 := by omega
      have e := zcl hlt hz
      rw [← ht] at e
      have hle : (trimL l).length = m + 1 := by rw [e]; simp; omega
      have htw : (ws l).take (m + 1) = ws (trimL l) := by rw [e, zme]
      have htw2 : (ws (trimL l)).take (m + 1) = ws (trimL l) := by rw [← hle, zbc]
      (repeat (first | with_reducible (first | refine WL.seq ?_ | refine WL.skip ?_ | refine WL.label ?_ | refine WL.block ?_ | refine WL.scope ?_ | refine WL.nilS ?_ | refine WL.reS ?_ | refine WL.exS ?_ | refine WL.nilB ?_ | refine WL.nilT ?_ | refine WL.exit ?_ | refine WL.ret ?_ | refine WL.exT ?_ | refine WL.exB ?_ | refine WL.exN rfl ?_ | refine WL.reT ?_ | refine WL.reB ?_) | ((first | refine WL.reg rfl ?_ | refine WL.regT zai rfl ?_); (conv => { arg 3; simp [prep, prep1] }); (repeat (first | (refine zae ?_ ?_; (focus (simp; done)); (conv => { arg 4; simp (disch := omega) [h0, h3, wl, hz', w32, hne, htw, htw2] }); (first | (first | refine zaa ?_ | (refine zac ?_; (conv => { arg 5; simp }))))) | (refine zab rfl ?_ ?_; (focus (simp; done))))); with_reducible refine zad ?_; (first | refine ⟨rfl, ?_⟩ | refine ⟨by simp [quietB], by simp [quietU], ?_⟩ | skip)) | (refine WL.cond ?_; (conv => { arg 1; simp (disch := omega) [h0, h3, wl, hz', w32, hne, htw, htw2] }); with_reducible (first | refine zaj ?_ | refine zak ?_ | refine zag (by omega) ?_ | refine zah (by omega) ?_))))
      refine ⟨[⟨18, g 18, 0⟩], ?_⟩
      simp (disch := omega) [idx, hle, htw2]
theorem zdp (l : List Nat) (hw : wf l) (hl : l.length ≤ 35184372088000) : CallOk Tryz.prog 68 [wl l] [] (wl (nw (val l))) [] := by
  rw [← zba hw]
  refine CallOk.of_wl Tryz.func68 rfl rfl rfl (Nat.le_of_ble_eq_true rfl) ?_
  (repeat (first | with_reducible (first | refine WL.seq ?_ | refine WL.skip ?_ | refine WL.label ?_ | refine WL.block ?_ | refine WL.scope ?_ | refine WL.nilS ?_ | refine WL.reS ?_ | refine WL.exS ?_ | refine WL.nilB ?_ | refine WL.nilT ?_ | refine WL.exit ?_ | refine WL.ret ?_ | refine WL.exT ?_ | refine WL.exB ?_ | refine WL.exN rfl ?_ | refine WL.reT ?_ | refine WL.reB ?_) | ((first | refine WL.reg rfl ?_ | refine WL.regT zai rfl ?_); (conv => { arg 3; simp [prep, prep1] }); (repeat (first | (refine zae ?_ ?_; (focus (simp; done)); (conv => { arg 4; simp (disch := omega) [wl] }); (first | (first | refine zaa ?_ | (refine zac ?_; (conv => { arg 5; simp }))))) | (refine zab rfl ?_ ?_; (focus (simp; done))))); with_reducible refine zad ?_; (first | refine ⟨rfl, ?_⟩ | refine ⟨by simp [quietB], by simp [quietU], ?_⟩ | skip)) | (refine WL.cond ?_; (conv => { arg 1; simp (disch := omega) [wl] }); with_reducible (first | refine zaj ?_ | refine zak ?_ | refine zag (by omega) ?_ | refine zah (by omega) ?_))))
  refine WL.loop (fun m s => s.frame 0 = wl l ∧ m ≤ l.length ∧ s.frame 3 = .int .i64 m ∧ trimL l = trimL (l.take m)) l.length ?_ ?_
  · exact ⟨by simp [wl], by omega, by simp, by simp⟩
  rintro m ⟨f, σ, g⟩ ⟨h0, hm, h3, ht⟩
  simp only at h0 h3
  cases m with
  | zero =>
    have ht0 : trimL l = [] := by rw [ht]; simp [trimL]
    (repeat (first | with_reducible (first | refine WL.seq ?_ | refine WL.skip ?_ | refine WL.label ?_ | refine WL.block ?_ | refine WL.scope ?_ | refine WL.nilS ?_ | refine WL.reS ?_ | refine WL.exS ?_ | refine WL.nilB ?_ | refine WL.nilT ?_ | refine WL.exit ?_ | refine WL.ret ?_ | refine WL.exT ?_ | refine WL.exB ?_ | refine WL.exN rfl ?_ | refine WL.reT ?_ | refine WL.reB ?_) | ((first | refine WL.reg rfl ?_ | refine WL.regT zai rfl ?_); (conv => { arg 3; simp [prep, prep1] }); (repeat (first | (refine zae ?_ ?_; (focus (simp; done)); (conv => { arg 4; simp (disch := omega) [h0, h3, wl] }); (first | (first | refine zaa ?_ | (refine zac ?_; (conv => { arg 5; simp }))))) | (refine zab rfl ?_ ?_; (focus (simp; done))))); with_reducible refine zad ?_; (first | refine ⟨rfl, ?_⟩ | refine ⟨by simp [quietB], by simp [quietU], ?_⟩ | skip)) | (refine WL.cond ?_; (conv => { arg 1; simp (disch := omega) [h0, h3, wl] }); with_reducible (first | refine zaj ?_ | refine zak ?_ | refine zag (by omega) ?_ | refine zah (by omega) ?_))))
    refine ⟨[], ?_⟩
    simp (disch := omega) [ht0, ws]
  | succ m =>
    have hlt : m < l.length := by omega
    by_cases hz : l[m]'hlt = 0
    · have hz' : (ws l)[m]? = some (w32 0) := by simp [ws, hlt, hz]
      (repeat (first | with_reducible (first | refine WL.seq ?_ | refine WL.skip ?_ | refine WL.label ?_ | refine WL.block ?_ | refine WL.scope ?_ | refine WL.nilS ?_ | refine WL.reS ?_ | refine WL.exS ?_ | refine WL.nilB ?_ | refine WL.nilT ?_ | refine WL.exit ?_ | refine WL.ret ?_ | refine WL.exT ?_ | refine WL.exB ?_ | refine WL.exN rfl ?_ | refine WL.reT ?_ | refine WL.reB ?_) | ((first | refine WL.reg rfl ?_ | refine WL.regT zai rfl ?_); (conv => { arg 3; simp [prep, prep1] }); (repeat (first | (refine zae ?_ ?_; (focus (simp; done)); (conv => { arg 4; simp (disch := omega) [h0, h3, wl, hz', w32] }); (first | (first | refine zaa ?_ | (refine zac ?_; (conv => { arg 5; simp }))))) | (refine zab rfl ?_ ?_; (focus (simp; done))))); with_reducible refine zad ?_; (first | refine ⟨rfl, ?_⟩ | refine ⟨by simp [quietB], by simp [quietU], ?_⟩ | skip)) | (refine WL.cond ?_; (conv => { arg 1; simp (disch := omega) [h0, h3, wl, hz', w32] }); with_reducible (first | refine zaj ?_ | refine zak ?_ | refine zag (by omega) ?_ | refine zah (by omega) ?_))))
      exact ⟨m, by omega, by simp [h0, wl], by omega, by simp, by rw [ht, zcf hlt hz]⟩
    · have hz' : (ws l)[m]? = some (w32 (l[m]'hlt)) := by simp [ws, hlt]
      have hne : ¬ ((l[m]'hlt : Nat) : Int) = 0 := by omega
      have e := zcl hlt hz
      rw [← ht] at e
      have hle : (trimL l).length = m + 1 := by rw [e]; simp; omega
      have htw : (ws l).take (m + 1) = ws (trimL l) := by rw [e, zme]
      have htw2 : (ws (trimL l)).take (m + 1) = ws (trimL l) := by rw [← hle, zbc]
      (repeat (first | with_reducible (first | refine WL.seq ?_ | refine WL.skip ?_ | refine WL.label ?_ | refine WL.block ?_ | refine WL.scope ?_ | refine WL.nilS ?_ | refine WL.reS ?_ | refine WL.exS ?_ | refine WL.nilB ?_ | refine WL.nilT ?_ | refine WL.exit ?_ | refine WL.ret ?_ | refine WL.exT ?_ | refine WL.exB ?_ | refine WL.exN rfl ?_ | refine WL.reT ?_ | refine WL.reB ?_) | ((first | refine WL.reg rfl ?_ | refine WL.regT zai rfl ?_); (conv => { arg 3; simp [prep, prep1] }); (repeat (first | (refine zae ?_ ?_; (focus (simp; done)); (conv => { arg 4; simp (disch := omega) [h0, h3, wl, hz', w32, hne, htw, htw2] }); (first | (first | refine zaa ?_ | (refine zac ?_; (conv => { arg 5; simp }))))) | (refine zab rfl ?_ ?_; (focus (simp; done))))); with_reducible refine zad ?_; (first | refine ⟨rfl, ?_⟩ | refine ⟨by simp [quietB], by simp [quietU], ?_⟩ | skip)) | (refine WL.cond ?_; (conv => { arg 1; simp (disch := omega) [h0, h3, wl, hz', w32, hne, htw, htw2] }); with_reducible (first | refine zaj ?_ | refine zak ?_ | refine zag (by omega) ?_ | refine zah (by omega) ?_))))
      refine ⟨[], ?_⟩
      simp (disch := omega) [hle, htw2]
theorem zmo (l : List Nat) (i : Nat) (hi : i ≤ 1099511627776000) : CallOk Tryz.prog 149 [wl l, .int .i64 i] [] (w32 (l.getD i 0)) [] := by
  by_cases h : i < l.length
  · have h1 := zbk h
    generalize l.getD i 0 = x at *
    refine CallOk.of_wl Tryz.func149 rfl rfl rfl (Nat.le_of_ble_eq_true rfl) ?_
    (repeat (first | with_reducible (first | refine WL.seq ?_ | refine WL.skip ?_ | refine WL.label ?_ | refine WL.block ?_ | refine WL.scope ?_ | refine WL.nilS ?_ | refine WL.reS ?_ | refine WL.exS ?_ | refine WL.nilB ?_ | refine WL.nilT ?_ | refine WL.exit ?_ | refine WL.ret ?_ | refine WL.exT ?_ | refine WL.exB ?_ | refine WL.exN rfl ?_ | refine WL.reT ?_ | refine WL.reB ?_) | ((first | refine WL.reg rfl ?_ | refine WL.regT zai rfl ?_); (conv => { arg 3; simp [prep, prep1] }); (repeat (first | (refine zae ?_ ?_; (focus (simp; done)); (conv => { arg 4; simp (disch := omega) [wl, h, h1] }); (first | (first | refine zaa ?_ | (refine zac ?_; (conv => { arg 5; simp }))))) | (refine zab rfl ?_ ?_; (focus (simp; done))))); with_reducible refine zad ?_; (first | refine ⟨rfl, ?_⟩ | refine ⟨by simp [quietB], by simp [quietU], ?_⟩ | skip)) | (refine WL.cond ?_; (conv => { arg 1; simp (disch := omega) [wl, h, h1] }); with_reducible (first | refine zaj ?_ | refine zak ?_ | refine zag (by omega) ?_ | refine zah (by omega) ?_))))
    refine ⟨[], ?_⟩
    simp (disch := omega) [w32]
  · have h1 : l.getD i 0 = 0 := by rw [List.getD_eq_getElem?_getD, List.getElem?_eq_none (by omega)]; rfl
    rw [h1]
    refine CallOk.of_wl Tryz.func149 rfl rfl rfl (Nat.le_of_ble_eq_true rfl) ?_
    (repeat (first | with_reducible (first | refine WL.seq ?_ | refine WL.skip ?_ | refine WL.label ?_ | refine WL.block ?_ | refine WL.scope ?_ | refine WL.nilS ?_ | refine WL.reS ?_ | refine WL.exS ?_ | refine WL.nilB ?_ | refine WL.nilT ?_ | refine WL.exit ?_ | refine WL.ret ?_ | refine WL.exT ?_ | refine WL.exB ?_ | refine WL.exN rfl ?_ | refine WL.reT ?_ | refine WL.reB ?_) | ((first | refine WL.reg rfl ?_ | refine WL.regT zai rfl ?_); (conv => { arg 3; simp [prep, prep1] }); (repeat (first | (refine zae ?_ ?_; (focus (simp; done)); (conv => { arg 4; simp (disch := omega) [wl, h] }); (first | (first | refine zaa ?_ | (refine zac ?_; (conv => { arg 5; simp }))))) | (refine zab rfl ?_ ?_; (focus (simp; done))))); with_reducible refine zad ?_; (first | refine ⟨rfl, ?_⟩ | refine ⟨by simp [quietB], by simp [quietU], ?_⟩ | skip)) | (refine WL.cond ?_; (conv => { arg 1; simp (disch := omega) [wl, h] }); with_reducible (first | refine zaj ?_ | refine zak ?_ | refine zag (by omega) ?_ | refine zah (by omega) ?_))))
    refine ⟨[], ?_⟩
    simp (disch := omega) [w32]
theorem zps (a b : List Nat) (ha : wf a) (hb : wf b) (hla : a.length ≤ 35184372088000) (hlb : b.length ≤ 35184372088000) : CallOk Tryz.prog 110 [wl a, wl b] [] (.int .i64 (cmpI (val a) (val b))) [] := by
  have hmx : (if a.length < b.length then (b.length : Int) else (a.length : Int)) = ((max a.length b.length : Nat) : Int) := by split <;> omega
  have hN1 : a.length ≤ max a.length b.length := Nat.le_max_left _ _
  have hN2 : b.length ≤ max a.length b.length := Nat.le_max_right _ _
  have hN3 : max a.length b.length ≤ 35184372088000 := by omega
  generalize max a.length b.length = N at *
  refine CallOk.of_wl Tryz.func110 rfl rfl rfl (Nat.le_of_ble_eq_true rfl) ?_
  (repeat (first | with_reducible (first | refine WL.seq ?_ | refine WL.skip ?_ | refine WL.label ?_ | refine WL.block ?_ | refine WL.scope ?_ | refine WL.nilS ?_ | refine WL.reS ?_ | refine WL.exS ?_ | refine WL.nilB ?_ | refine WL.nilT ?_ | refine WL.exit ?_ | refine WL.ret ?_ | refine WL.exT ?_ | refine WL.exB ?_ | refine WL.exN rfl ?_ | refine WL.reT ?_ | refine WL.reB ?_) | ((first | refine WL.reg rfl ?_ | refine WL.regT zai rfl ?_); (conv => { arg 3; simp [prep, prep1] }); (repeat (first | (refine zae ?_ ?_; (focus (simp; done)); (conv => { arg 4; simp (disch := omega) [wl, hmx] }); (first | (first | refine zaa ?_ | (refine zac ?_; (conv => { arg 5; simp }))))) | (refine zab rfl ?_ ?_; (focus (simp; done))))); with_reducible refine zad ?_; (first | refine ⟨rfl, ?_⟩ | refine ⟨by simp [quietB], by simp [quietU], ?_⟩ | skip)) | (refine WL.cond ?_; (conv => { arg 1; simp (disch := omega) [wl, hmx] }); with_reducible (first | refine zaj ?_ | refine zak ?_ | refine zag (by omega) ?_ | refine zah (by omega) ?_))))
  refine WL.loop (fun m s => m ≤ N ∧ s.frame 0 = wl a ∧ s.frame 1 = wl b ∧ s.frame 5 = .int .i64 ((m : Int) - 1) ∧ ∀ j, m ≤ j → a.getD j 0 = b.getD j 0) N ?_ ?_
  · refine ⟨by omega, by simp [wl], by simp [wl], by simp, fun j hj => ?_⟩
    rw [List.getD_eq_getElem?_getD, List.getD_eq_getElem?_getD, List.getElem?_eq_none (by omega), List.getElem?_eq_none (by omega)]
  rintro m ⟨f, σ, g⟩ ⟨hm, h0, h1, h5, hd⟩
  simp only at h0 h1 h5
  cases m with
  | zero =>
    have e : val a = val b := val_eq_of fun j => hd j (by omega)
    have h5' : f 5 = .int .i64 (-1) := by simpa using h5
    (repeat (first | with_reducible (first | refine WL.seq ?_ | refine WL.skip ?_ | refine WL.label ?_ | refine WL.block ?_ | refine WL.scope ?_ | refine WL.nilS ?_ | refine WL.reS ?_ | refine WL.exS ?_ | refine WL.nilB ?_ | refine WL.nilT ?_ | refine WL.exit ?_ | refine WL.ret ?_ | refine WL.exT ?_ | refine WL.exB ?_ | refine WL.exN rfl ?_ | refine WL.reT ?_ | refine WL.reB ?_) | ((first | refine WL.reg rfl ?_ | refine WL.regT zai rfl ?_); (conv => { arg 3; simp [prep, prep1] }); (repeat (first | (refine zae ?_ ?_; (focus (simp; done)); (conv => { arg 4; simp (disch := omega) [h0, h1, h5'] }); (first | (first | refine zaa ?_ | (refine zac ?_; (conv => { arg 5; simp }))))) | (refine zab rfl ?_ ?_; (focus (simp; done))))); with_reducible refine zad ?_; (first | refine ⟨rfl, ?_⟩ | refine ⟨by simp [quietB], by simp [quietU], ?_⟩ | skip)) | (refine WL.cond ?_; (conv => { arg 1; simp (disch := omega) [h0, h1, h5'] }); with_reducible (first | refine zaj ?_ | refine zak ?_ | refine zag (by omega) ?_ | refine zah (by omega) ?_))))
    refine ⟨[], ?_⟩
    simp (disch := omega) [cmpI, e]
  | succ m =>
    have h5' : f 5 = .int .i64 (m : Int) := by rw [h5]; congr 1; omega
    have hm0 : 0 ≤ (m : Int) := by omega
    have c1 := zmo a m (by omega)
    have c2 := zmo b m (by omega)
    rcases Nat.lt_trichotomy (a.getD m 0) (b.getD m 0) with h | h | h
    · have hv := zld ha hb hd h
      have hc : cmpI (val a) (val b) = -1 := by unfold cmpI; rw [if_pos hv]
      rw [hc]
      generalize a.getD m 0 = x at *
      generalize b.getD m 0 = y at *
      have hI : (x : Int) < y := by omega
      (repeat (first | with_reducible (first | refine WL.seq ?_ | refine WL.skip ?_ | refine WL.label ?_ | refine WL.block ?_ | refine WL.scope ?_ | refine WL.nilS ?_ | refine WL.reS ?_ | refine WL.exS ?_ | refine WL.nilB ?_ | refine WL.nilT ?_ | refine WL.exit ?_ | refine WL.ret ?_ | refine WL.exT ?_ | refine WL.exB ?_ | refine WL.exN rfl ?_ | refine WL.reT ?_ | refine WL.reB ?_) | ((first | refine WL.reg rfl ?_ | refine WL.regT zai rfl ?_); (conv => { arg 3; simp [prep, prep1] }); (repeat (first | (refine zae ?_ ?_; (focus (simp; done)); (conv => { arg 4; simp (disch := omega) [h0, h1, h5', w32, hI] }); (first | (first | refine zaa ?_ | (refine zac ?_; (conv => { arg 5; simp }))) | (refine zal true rfl rfl ⟨_, Tryz.func149, rfl, rfl⟩ ?_; (conv => { arg 6; simp (disch := omega) [h0, h1, h5', w32, hI] }); (first | refine zaf (c1) rfl ?_ | refine zaf (c2) rfl ?_); (conv => { arg 5; simp (disch := omega) [h0, h1, h5', w32, hI] })))) | (refine zab rfl ?_ ?_; (focus (simp; done))))); with_reducible refine zad ?_; (first | refine ⟨rfl, ?_⟩ | refine ⟨by simp [quietB], by simp [quietU], ?_⟩ | skip)) | (refine WL.cond ?_; (conv => { arg 1; simp (disch := omega) [h0, h1, h5', w32, hI] }); with_reducible (first | refine zaj ?_ | refine zak ?_ | refine zag (by omega) ?_ | refine zah (by omega) ?_))))
      refine ⟨[], ?_⟩
      simp (disch := omega) 
    · have hd' : ∀ j, m ≤ j → a.getD j 0 = b.getD j 0 := fun j hj => by
        rcases Nat.lt_or_ge m j with h' | h'
        · exact hd j h'
        · have : j = m := by omega
          rw [this]; exact h
      rw [h] at c1
      generalize b.getD m 0 = y at *
      (repeat (first | with_reducible (first | refine WL.seq ?_ | refine WL.skip ?_ | refine WL.label ?_ | refine WL.block ?_ | refine WL.scope ?_ | refine WL.nilS ?_ | refine WL.reS ?_ | refine WL.exS ?_ | refine WL.nilB ?_ | refine WL.nilT ?_ | refine WL.exit ?_ | refine WL.ret ?_ | refine WL.exT ?_ | refine WL.exB ?_ | refine WL.exN rfl ?_ | refine WL.reT ?_ | refine WL.reB ?_) | ((first | refine WL.reg rfl ?_ | refine WL.regT zai rfl ?_); (conv => { arg 3; simp [prep, prep1] }); (repeat (first | (refine zae ?_ ?_; (focus (simp; done)); (conv => { arg 4; simp (disch := omega) [h0, h1, h5', w32] }); (first | (first | refine zaa ?_ | (refine zac ?_; (conv => { arg 5; simp }))) | (refine zal true rfl rfl ⟨_, Tryz.func149, rfl, rfl⟩ ?_; (conv => { arg 6; simp (disch := omega) [h0, h1, h5', w32] }); (first | refine zaf (c1) rfl ?_ | refine zaf (c2) rfl ?_); (conv => { arg 5; simp (disch := omega) [h0, h1, h5', w32] })))) | (refine zab rfl ?_ ?_; (focus (simp; done))))); with_reducible refine zad ?_; (first | refine ⟨rfl, ?_⟩ | refine ⟨by simp [quietB], by simp [quietU], ?_⟩ | skip)) | (refine WL.cond ?_; (conv => { arg 1; simp (disch := omega) [h0, h1, h5', w32] }); with_reducible (first | refine zaj ?_ | refine zak ?_ | refine zag (by omega) ?_ | refine zah (by omega) ?_))))
      exact ⟨m, by omega, by omega, by simp [h0], by simp [h1], by simp, hd'⟩
    · have hv := zld hb ha (fun j hj => (hd j hj).symm) h
      have hc : cmpI (val a) (val b) = 1 := by unfold cmpI; rw [if_neg (by omega), if_pos hv]
      rw [hc]
      generalize a.getD m 0 = x at *
      generalize b.getD m 0 = y at *
      have hI : ¬ (x : Int) < y := by omega
      have hI2 : (y : Int) < x := by omega
      (repeat (first | with_reducible (first | refine WL.seq ?_ | refine WL.skip ?_ | refine WL.label ?_ | refine WL.block ?_ | refine WL.scope ?_ | refine WL.nilS ?_ | refine WL.reS ?_ | refine WL.exS ?_ | refine WL.nilB ?_ | refine WL.nilT ?_ | refine WL.exit ?_ | refine WL.ret ?_ | refine WL.exT ?_ | refine WL.exB ?_ | refine WL.exN rfl ?_ | refine WL.reT ?_ | refine WL.reB ?_) | ((first | refine WL.reg rfl ?_ | refine WL.regT zai rfl ?_); (conv => { arg 3; simp [prep, prep1] }); (repeat (first | (refine zae ?_ ?_; (focus (simp; done)); (conv => { arg 4; simp (disch := omega) [h0, h1, h5', w32, hI, hI2] }); (first | (first | refine zaa ?_ | (refine zac ?_; (conv => { arg 5; simp }))) | (refine zal true rfl rfl ⟨_, Tryz.func149, rfl, rfl⟩ ?_; (conv => { arg 6; simp (disch := omega) [h0, h1, h5', w32, hI, hI2] }); (first | refine zaf (c1) rfl ?_ | refine zaf (c2) rfl ?_); (conv => { arg 5; simp (disch := omega) [h0, h1, h5', w32, hI, hI2] })))) | (refine zab rfl ?_ ?_; (focus (simp; done))))); with_reducible refine zad ?_; (first | refine ⟨rfl, ?_⟩ | refine ⟨by simp [quietB], by simp [quietU], ?_⟩ | skip)) | (refine WL.cond ?_; (conv => { arg 1; simp (disch := omega) [h0, h1, h5', w32, hI, hI2] }); with_reducible (first | refine zaj ?_ | refine zak ?_ | refine zag (by omega) ?_ | refine zah (by omega) ?_))))
      refine ⟨[], ?_⟩
      simp (disch := omega) 
theorem zpp (a b : List Nat) (hla : a.length ≤ 35184372088000) (hlb : b.length ≤ 35184372088000) : CallOk Tryz.prog 150 [wl a, wl b] [] (.bool (decide (a = b))) [] := by
  by_cases hl : a.length = b.length
  · have hlI : ((a.length : Nat) : Int) = b.length := by omega
    refine CallOk.of_wl Tryz.func150 rfl rfl rfl (Nat.le_of_ble_eq_true rfl) ?_
    (repeat (first | with_reducible (first | refine WL.seq ?_ | refine WL.skip ?_ | refine WL.label ?_ | refine WL.block ?_ | refine WL.scope ?_ | refine WL.nilS ?_ | refine WL.reS ?_ | refine WL.exS ?_ | refine WL.nilB ?_ | refine WL.nilT ?_ | refine WL.exit ?_ | refine WL.ret ?_ | refine WL.exT ?_ | refine WL.exB ?_ | refine WL.exN rfl ?_ | refine WL.reT ?_ | refine WL.reB ?_) | ((first | refine WL.reg rfl ?_ | refine WL.regT zai rfl ?_); (conv => { arg 3; simp [prep, prep1] }); (repeat (first | (refine zae ?_ ?_; (focus (simp; done)); (conv => { arg 4; simp (disch := omega) [wl, hlI] }); (first | (first | refine zaa ?_ | (refine zac ?_; (conv => { arg 5; simp }))))) | (refine zab rfl ?_ ?_; (focus (simp; done))))); with_reducible refine zad ?_; (first | refine ⟨rfl, ?_⟩ | refine ⟨by simp [quietB], by simp [quietU], ?_⟩ | skip)) | (refine WL.cond ?_; (conv => { arg 1; simp (disch := omega) [wl, hlI] }); with_reducible (first | refine zaj ?_ | refine zak ?_ | refine zag (by omega) ?_ | refine zah (by omega) ?_))))
    refine WL.loop (fun m s => ∃ i : Nat, m = a.length - i ∧ i ≤ a.length ∧ s.frame 0 = wl a ∧ s.frame 1 = wl b ∧ s.frame 5 = .int .i64 i ∧ a.take i = b.take i) a.length ?_ ?_
    · exact ⟨0, by omega, by omega, by simp [wl, hlI, hl], by simp [wl], by simp, by simp⟩
    rintro m ⟨f, σ, g⟩ ⟨i, rfl, hi, h0, h1, h5, hq⟩
    simp only at h0 h1 h5
    by_cases hi' : i < a.length
    · have hib : i < b.length := by omega
      have ra := zbk hi'
      have rb := zbk hib
      have hsa : a.take (i + 1) = a.take i ++ [a.getD i 0] := by
        rw [List.take_succ_eq_append_getElem hi', List.getD_eq_getElem?_getD, List.getElem?_eq_getElem hi']; rfl
      have hsb : b.take (i + 1) = b.take i ++ [b.getD i 0] := by
        rw [List.take_succ_eq_append_getElem hib, List.getD_eq_getElem?_getD, List.getElem?_eq_getElem hib]; rfl
      by_cases he : a.getD i 0 = b.getD i 0
      · rw [he] at ra
        have hqq : a.take (i + 1) = b.take (i + 1) := by rw [hsa, hsb, hq, he]
        generalize b.getD i 0 = y at *
        (repeat (first | with_reducible (first | refine WL.seq ?_ | refine WL.skip ?_ | refine WL.label ?_ | refine WL.block ?_ | refine WL.scope ?_ | refine WL.nilS ?_ | refine WL.reS ?_ | refine WL.exS ?_ | refine WL.nilB ?_ | refine WL.nilT ?_ | refine WL.exit ?_ | refine WL.ret ?_ | refine WL.exT ?_ | refine WL.exB ?_ | refine WL.exN rfl ?_ | refine WL.reT ?_ | refine WL.reB ?_) | ((first | refine WL.reg rfl ?_ | refine WL.regT zai rfl ?_); (conv => { arg 3; simp [prep, prep1] }); (repeat (first | (refine zae ?_ ?_; (focus (simp; done)); (conv => { arg 4; simp (disch := omega) [h5, hi', hib, h0, h1, wl, ra, rb] }); (first | (first | refine zaa ?_ | (refine zac ?_; (conv => { arg 5; simp }))))) | (refine zab rfl ?_ ?_; (focus (simp; done))))); with_reducible refine zad ?_; (first | refine ⟨rfl, ?_⟩ | refine ⟨by simp [quietB], by simp [quietU], ?_⟩ | skip)) | (refine WL.cond ?_; (conv => { arg 1; simp (disch := omega) [h5, hi', hib, h0, h1, wl, ra, rb] }); with_reducible (first | refine zaj ?_ | refine zak ?_ | refine zag (by omega) ?_ | refine zah (by omega) ?_))))
        exact ⟨a.length - (i + 1), by omega, i + 1, rfl, by omega, by simp [h0], by simp [h1], by simp, hqq⟩
      · have hne : ¬ a = b := fun h => he (by rw [h])
        have heI : ¬ ((a.getD i 0 : Nat) : Int) = b.getD i 0 := by omega
        generalize a.getD i 0 = x at *
        generalize b.getD i 0 = y at *
        (repeat (first | with_reducible (first | refine WL.seq ?_ | refine WL.skip ?_ | refine WL.label ?_ | refine WL.block ?_ | refine WL.scope ?_ | refine WL.nilS ?_ | refine WL.reS ?_ | refine WL.exS ?_ | refine WL.nilB ?_ | refine WL.nilT ?_ | refine WL.exit ?_ | refine WL.ret ?_ | refine WL.exT ?_ | refine WL.exB ?_ | refine WL.exN rfl ?_ | refine WL.reT ?_ | refine WL.reB ?_) | ((first | refine WL.reg rfl ?_ | refine WL.regT zai rfl ?_); (conv => { arg 3; simp [prep, prep1] }); (repeat (first | (refine zae ?_ ?_; (focus (simp; done)); (conv => { arg 4; simp (disch := omega) [h5, hi', hib, h0, h1, wl, ra, rb, heI] }); (first | (first | refine zaa ?_ | (refine zac ?_; (conv => { arg 5; simp }))))) | (refine zab rfl ?_ ?_; (focus (simp; done))))); with_reducible refine zad ?_; (first | refine ⟨rfl, ?_⟩ | refine ⟨by simp [quietB], by simp [quietU], ?_⟩ | skip)) | (refine WL.cond ?_; (conv => { arg 1; simp (disch := omega) [h5, hi', hib, h0, h1, wl, ra, rb, heI] }); with_reducible (first | refine zaj ?_ | refine zak ?_ | refine zag (by omega) ?_ | refine zah (by omega) ?_))))
        refine ⟨[], ?_⟩
        simp (disch := omega) [hne]
    · have hia : i = a.length := by omega
      subst hia
      have hqq : a = b := by rwa [List.take_length, hl, List.take_length] at hq
      (repeat (first | with_reducible (first | refine WL.seq ?_ | refine WL.skip ?_ | refine WL.label ?_ | refine WL.block ?_ | refine WL.scope ?_ | refine WL.nilS ?_ | refine WL.reS ?_ | refine WL.exS ?_ | refine WL.nilB ?_ | refine WL.nilT ?_ | refine WL.exit ?_ | refine WL.ret ?_ | refine WL.exT ?_ | refine WL.exB ?_ | refine WL.exN rfl ?_ | refine WL.reT ?_ | refine WL.reB ?_) | ((first | refine WL.reg rfl ?_ | refine WL.regT zai rfl ?_); (conv => { arg 3; simp [prep, prep1] }); (repeat (first | (refine zae ?_ ?_; (focus (simp; done)); (conv => { arg 4; simp (disch := omega) [h5, h0, wl] }); (first | (first | refine zaa ?_ | (refine zac ?_; (conv => { arg 5; simp }))))) | (refine zab rfl ?_ ?_; (focus (simp; done))))); with_reducible refine zad ?_; (first | refine ⟨rfl, ?_⟩ | refine ⟨by simp [quietB], by simp [quietU], ?_⟩ | skip)) | (refine WL.cond ?_; (conv => { arg 1; simp (disch := omega) [h5, h0, wl] }); with_reducible (first | refine zaj ?_ | refine zak ?_ | refine zag (by omega) ?_ | refine zah (by omega) ?_))))
      refine ⟨[], ?_⟩
      simp (disch := omega) [hqq]
  · have hne : ¬ a = b := fun h => hl (by rw [h])
    have hlI : ¬ ((a.length : Nat) : Int) = b.length := by omega
    refine CallOk.of_wl Tryz.func150 rfl rfl rfl (Nat.le_of_ble_eq_true rfl) ?_
    (repeat (first | with_reducible (first | refine WL.seq ?_ | refine WL.skip ?_ | refine WL.label ?_ | refine WL.block ?_ | refine WL.scope ?_ | refine WL.nilS ?_ | refine WL.reS ?_ | refine WL.exS ?_ | refine WL.nilB ?_ | refine WL.nilT ?_ | refine WL.exit ?_ | refine WL.ret ?_ | refine WL.exT ?_ | refine WL.exB ?_ | refine WL.exN rfl ?_ | refine WL.reT ?_ | refine WL.reB ?_) | ((first | refine WL.reg rfl ?_ | refine WL.regT zai rfl ?_); (conv => { arg 3; simp [prep, prep1] }); (repeat (first | (refine zae ?_ ?_; (focus (simp; done)); (conv => { arg 4; simp (disch := omega) [wl, hlI] }); (first | (first | refine zaa ?_ | (refine zac ?_; (conv => { arg 5; simp }))))) | (refine zab rfl ?_ ?_; (focus (simp; done))))); with_reducible refine zad ?_; (first | refine ⟨rfl, ?_⟩ | refine ⟨by simp [quietB], by simp [quietU], ?_⟩ | skip)) | (refine WL.cond ?_; (conv => { arg 1; simp (disch := omega) [wl, hlI] }); with_reducible (first | refine zaj ?_ | refine zak ?_ | refine zag (by omega) ?_ | refine zah (by omega) ?_))))
    refine ⟨[], ?_⟩
    simp (disch := omega) [hne]
theorem zrs (n : Nat) (hn : n < 18446744073709551616) : CallOk Tryz.prog 95 [.int .u64 n] [] (wl (nw n)) [] := by
  have hwf : wf [n % 4294967296, n / 4294967296] := by
    intro x hx; simp at hx; omega
  have hval : val [n % 4294967296, n / 4294967296] = n := by simp only [val]; omega
  have c1 := zdp [n % 4294967296, n / 4294967296] hwf (by simp)
  rw [hval] at c1
  have q1 : (n : Int).tmod 4294967296 = ((n % 4294967296 : Nat) : Int) := rfl
  have q2 : (n : Int).tdiv 4294967296 = ((n / 4294967296 : Nat) : Int) := rfl
  have q3 : ((n % 4294967296 : Nat) : Int) % 4294967296 = ((n % 4294967296 : Nat) : Int) := by omega
  have q4 : ((n / 4294967296 : Nat) : Int) % 4294967296 = ((n / 4294967296 : Nat) : Int) := by omega
  generalize n % 4294967296 = lo at *
  generalize n / 4294967296 = hi at *
  simp only [wl, ws, w32, List.map_cons, List.map_nil, List.length_cons, List.length_nil] at c1
  refine CallOk.of_wl Tryz.func95 rfl rfl rfl (Nat.le_of_ble_eq_true rfl) ?_
  (repeat (first | with_reducible (first | refine WL.seq ?_ | refine WL.skip ?_ | refine WL.label ?_ | refine WL.block ?_ | refine WL.scope ?_ | refine WL.nilS ?_ | refine WL.reS ?_ | refine WL.exS ?_ | refine WL.nilB ?_ | refine WL.nilT ?_ | refine WL.exit ?_ | refine WL.ret ?_ | refine WL.exT ?_ | refine WL.exB ?_ | refine WL.exN rfl ?_ | refine WL.reT ?_ | refine WL.reB ?_) | ((first | refine WL.reg rfl ?_ | refine WL.regT zai rfl ?_); (conv => { arg 3; simp [prep, prep1] }); (repeat (first | (refine zae ?_ ?_; (focus (simp; done)); (conv => { arg 4; simp (disch := omega) [wl, q1, q2, q3, q4] }); (first | (first | refine zaa ?_ | (refine zac ?_; (conv => { arg 5; simp }))) | (refine zal true rfl rfl ⟨_, Tryz.func68, rfl, rfl⟩ ?_; (conv => { arg 6; simp (disch := omega) [wl, q1, q2, q3, q4] }); refine zaf (c1) rfl ?_; (conv => { arg 5; simp (disch := omega) [wl, q1, q2, q3, q4] })))) | (refine zab rfl ?_ ?_; (focus (simp; done))))); with_reducible refine zad ?_; (first | refine ⟨rfl, ?_⟩ | refine ⟨by simp [quietB], by simp [quietU], ?_⟩ | skip)) | (refine WL.cond ?_; (conv => { arg 1; simp (disch := omega) [wl, q1, q2, q3, q4] }); with_reducible (first | refine zaj ?_ | refine zak ?_ | refine zag (by omega) ?_ | refine zah (by omega) ?_))))
  refine ⟨[], ?_⟩
  simp (disch := omega) [wl, ws, w32]
theorem zee {a : List Nat} {i : Nat} (h : a.length ≤ i) : val (a.take i) = val a := by rw [List.take_of_length_le h]
theorem low_zero {x c P : Nat} (h : x + P * c < P) : c = 0 := by
  rcases Nat.eq_zero_or_pos c with h0 | h0
  · exact h0
  · have : P * 1 ≤ P * c := Nat.mul_le_mul_left _ h0
    omega
theorem zra (a b : List Nat) (ha : wf a) (hb : wf b) (hla : a.length ≤ 274877906944) (hlb : b.length ≤ 274877906944) : CallOk Tryz.prog 94 [wl a, wl b] [] (wl (nw (val a + val b))) [] := by
  have hmx : (if a.length < b.length then (b.length : Int) else (a.length : Int)) = ((max a.length b.length : Nat) : Int) := by split <;> omega
  have hN1 : a.length ≤ max a.length b.length := Nat.le_max_left _ _
  have hN2 : b.length ≤ max a.length b.length := Nat.le_max_right _ _
  have hN3 : max a.length b.length ≤ 274877906944 := by omega
  generalize hNe : max a.length b.length = N at *
  have hT : ((N : Int) + 1).toNat = N + 1 := by omega
  have hrep : List.replicate (N + 1) (PV.int IntKind.u32 0) = ws (List.replicate (N + 1) 0) := by simp [ws]
  have hlt : val a + val b < 4294967296 ^ (N + 1) := by
    have h1 := Nat.lt_of_lt_of_le (zax ha) (Nat.pow_le_pow_right (by decide : 0 < 4294967296) hN1)
    have h2 := Nat.lt_of_lt_of_le (zax hb) (Nat.pow_le_pow_right (by decide : 0 < 4294967296) hN2)
    rw [Nat.pow_succ]
    generalize 4294967296 ^ N = P at *
    omega
  refine CallOk.of_wl Tryz.func94 rfl rfl rfl (Nat.le_of_ble_eq_true rfl) ?_
  (repeat (first | with_reducible (first | refine WL.seq ?_ | refine WL.skip ?_ | refine WL.label ?_ | refine WL.block ?_ | refine WL.scope ?_ | refine WL.nilS ?_ | refine WL.reS ?_ | refine WL.exS ?_ | refine WL.nilB ?_ | refine WL.nilT ?_ | refine WL.exit ?_ | refine WL.ret ?_ | refine WL.exT ?_ | refine WL.exB ?_ | refine WL.exN rfl ?_ | refine WL.reT ?_ | refine WL.reB ?_) | ((first | refine WL.reg rfl ?_ | refine WL.regT zai rfl ?_); (conv => { arg 3; simp [prep, prep1] }); (repeat (first | (refine zae ?_ ?_; (focus (simp; done)); (conv => { arg 4; simp (disch := omega) [wl, hmx, hT, hrep] }); (first | (first | refine zaa ?_ | (refine zac ?_; (conv => { arg 5; simp }))))) | (refine zab rfl ?_ ?_; (focus (simp; done))))); with_reducible refine zad ?_; (first | refine ⟨rfl, ?_⟩ | refine ⟨by simp [quietB], by simp [quietU], ?_⟩ | skip)) | (refine WL.cond ?_; (conv => { arg 1; simp (disch := omega) [wl, hmx, hT, hrep] }); with_reducible (first | refine zaj ?_ | refine zak ?_ | refine zag (by omega) ?_ | refine zah (by omega) ?_))))
  refine WL.loop (fun m s => ∃ (i c : Nat) (X : List Nat), m = N + 1 - i ∧ i ≤ N + 1 ∧ s.frame 0 = wl a ∧ s.frame 1 = wl b ∧ s.frame 5 = .int .i64 ((N : Int) + 1) ∧ s.frame 6 = .sl ⟨16, 0, 0⟩ 0 0 (N + 1) 1 ∧ s.frame 7 = .int .u64 c ∧ s.frame 8 = .int .i64 i ∧
      s.store ⟨16, 0, 0⟩ = some ⟨0, true, true, ws X⟩ ∧ X.length = N + 1 ∧ wf X ∧ c < 4294967296 ∧ val X + 4294967296 ^ i * c = val (a.take i) + val (b.take i) ∧ ∀ j, i ≤ j → X.getD j 0 = 0) (N + 1) ?_ ?_
  · exact ⟨0, 0, List.replicate (N + 1) 0, by omega, by omega, by simp [wl], by simp [wl], by simp, by simp, by simp, by simp, by simp, by simp, zck _, by omega, by rw [zce]; simp [val], fun j _ => zcw _ _⟩
  rintro m ⟨f, σ, g⟩ ⟨i, c, X, rfl, hi, h0, h1, h5, h6, h7, h8, hst, hX, hwX, hc, hv, hz⟩
  simp only at h0 h1 h5 h6 h7 h8 hst
  by_cases hi' : i < N + 1
  · have hiI : (i : Int) < (N : Int) + 1 := by omega
    have c1 := zmo a i (by omega)
    have c2 := zmo b i (by omega)
    have hx := zbl ha i
    have hy := zbl hb i
    have ta := zdr a i
    have tb := zdr b i
    generalize a.getD i 0 = x at *
    generalize b.getD i 0 = y at *
    have hs := zjp (4294967296 ^ i) (c + (x + y))
    have hset := zgf ((c + (x + y)) % 4294967296) (X := X) (i := i) (by omega)
    rw [hz i (Nat.le_refl _), Nat.mul_zero, Nat.add_zero] at hset
    have hwf := ziq hwX i (v := (c + (x + y)) % 4294967296) (Nat.mod_lt _ (by decide))
    have s0 := zbm (X := X) (i := i) (v := (((c + (x + y)) % 4294967296 : Nat) : Int)) (by omega) rfl
    have q1 : ((c : Int) + ((x : Int) + (y : Int))).tmod 4294967296 = (((c + (x + y)) % 4294967296 : Nat) : Int) := rfl
    have q2 : ((c : Int) + ((x : Int) + (y : Int))).tdiv 4294967296 = (((c + (x + y)) / 4294967296 : Nat) : Int) := rfl
    have q3 : ((((c + (x + y)) % 4294967296 : Nat) : Int)) % 4294967296 = (((c + (x + y)) % 4294967296 : Nat) : Int) := by omega
    have hc2 : (c + (x + y)) / 4294967296 < 4294967296 := by omega
    have hv2 : val (X.set i ((c + (x + y)) % 4294967296)) + 4294967296 ^ (i + 1) * ((c + (x + y)) / 4294967296) = val (a.take (i + 1)) + val (b.take (i + 1)) := by
      rw [Nat.pow_succ, ta, tb, hset, Nat.add_assoc, hs, Nat.mul_add, Nat.mul_add]
      omega
    have hz2 : ∀ j, i + 1 ≤ j → (X.set i ((c + (x + y)) % 4294967296)).getD j 0 = 0 := fun j hj => by
      rw [zdf (by omega)]; exact hz j (by omega)
    have hXl : (X.set i ((c + (x + y)) % 4294967296)).length = N + 1 := by rw [List.length_set, hX]
    have w1 : (0 : Int) ≤ (x : Int) + y ∧ (x : Int) + y ≤ 18446744073709551615 := by omega
    have w2 : (0 : Int) ≤ (c : Int) + ((x : Int) + y) ∧ (c : Int) + ((x : Int) + y) ≤ 18446744073709551615 := by omega
    clear hs hset hv ta tb hlt hz hwX
    generalize (c + (x + y)) / 4294967296 = c' at *
    generalize (c + (x + y)) % 4294967296 = v at *
    have hlen : i < X.length := by omega
    (repeat (first | with_reducible (first | refine WL.seq ?_ | refine WL.skip ?_ | refine WL.label ?_ | refine WL.block ?_ | refine WL.scope ?_ | refine WL.nilS ?_ | refine WL.reS ?_ | refine WL.exS ?_ | refine WL.nilB ?_ | refine WL.nilT ?_ | refine WL.exit ?_ | refine WL.ret ?_ | refine WL.exT ?_ | refine WL.exB ?_ | refine WL.exN rfl ?_ | refine WL.reT ?_ | refine WL.reB ?_) | ((first | refine WL.reg rfl ?_ | refine WL.regT zai rfl ?_); (conv => { arg 3; simp [prep, prep1] }); (repeat (first | (refine zae ?_ ?_; (focus (simp; done)); (conv => { arg 4; simp (disch := omega) [h0, h1, h5, h6, h7, h8, hst, hiI, hi', hX, hlen, w32, q1, q2, q3, s0] }); (first | (first | refine zaa ?_ | (refine zac ?_; (conv => { arg 5; simp }))) | (refine zal true rfl rfl ⟨_, Tryz.func149, rfl, rfl⟩ ?_; (conv => { arg 6; simp (disch := omega) [h0, h1, h5, h6, h7, h8, hst, hiI, hi', hX, hlen, w32, q1, q2, q3, s0] }); (first | refine zaf (c1) rfl ?_ | refine zaf (c2) rfl ?_); (conv => { arg 5; simp (disch := omega) [h0, h1, h5, h6, h7, h8, hst, hiI, hi', hX, hlen, w32, q1, q2, q3, s0] })))) | (refine zab rfl ?_ ?_; (focus (simp; done))))); with_reducible refine zad ?_; (first | refine ⟨rfl, ?_⟩ | refine ⟨by simp [quietB], by simp [quietU], ?_⟩ | skip)) | (refine WL.cond ?_; (conv => { arg 1; simp (disch := omega) [h0, h1, h5, h6, h7, h8, hst, hiI, hi', hX, hlen, w32, q1, q2, q3, s0] }); with_reducible (first | refine zaj ?_ | refine zak ?_ | refine zag (by omega) ?_ | refine zah (by omega) ?_))))
    exact ⟨N + 1 - (i + 1), by omega, i + 1, c', X.set i v, rfl, by omega, by simp [h0], by simp [h1], by simp [h5], by simp [h6], by simp, by simp, by simp, hXl, hwf, hc2, hv2, hz2⟩
  · have hia : i = N + 1 := by omega
    subst hia
    rw [zee (by omega), zee (by omega)] at hv
    have hc0 := low_zero (x := val X) (c := c) (P := 4294967296 ^ (N + 1)) (by omega)
    rw [hc0, Nat.mul_zero, Nat.add_zero] at hv
    have cN := zdp X hwX (by omega)
    rw [hv] at cN
    rw [zmg, hX] at cN
    have hall : (ws X).take (N + 1) = ws X := by rw [← hX, zbc]
    have hnI : ¬ ((N + 1 : Nat) : Int) < (N : Int) + 1 := by omega
    clear hlt
    (repeat (first | with_reducible (first | refine WL.seq ?_ | refine WL.skip ?_ | refine WL.label ?_ | refine WL.block ?_ | refine WL.scope ?_ | refine WL.nilS ?_ | refine WL.reS ?_ | refine WL.exS ?_ | refine WL.nilB ?_ | refine WL.nilT ?_ | refine WL.exit ?_ | refine WL.ret ?_ | refine WL.exT ?_ | refine WL.exB ?_ | refine WL.exN rfl ?_ | refine WL.reT ?_ | refine WL.reB ?_) | ((first | refine WL.reg rfl ?_ | refine WL.regT zai rfl ?_); (conv => { arg 3; simp [prep, prep1] }); (repeat (first | (refine zae ?_ ?_; (focus (simp; done)); (conv => { arg 4; simp (disch := omega) [h0, h1, h5, h6, h7, h8, hst, hnI, hX, hall] }); (first | (first | refine zaa ?_ | (refine zac ?_; (conv => { arg 5; simp }))) | (refine zal true rfl rfl ⟨_, Tryz.func68, rfl, rfl⟩ ?_; (conv => { arg 6; simp (disch := omega) [h0, h1, h5, h6, h7, h8, hst, hnI, hX, hall] }); refine zaf (cN) rfl ?_; (conv => { arg 5; simp (disch := omega) [h0, h1, h5, h6, h7, h8, hst, hnI, hX, hall] })))) | (refine zab rfl ?_ ?_; (focus (simp; done))))); with_reducible refine zad ?_; (first | refine ⟨rfl, ?_⟩ | refine ⟨by simp [quietB], by simp [quietU], ?_⟩ | skip)) | (refine WL.cond ?_; (conv => { arg 1; simp (disch := omega) [h0, h1, h5, h6, h7, h8, hst, hnI, hX, hall] }); with_reducible (first | refine zaj ?_ | refine zak ?_ | refine zag (by omega) ?_ | refine zah (by omega) ?_))))
    refine ⟨[], ?_⟩
    simp (disch := omega) 
theorem zqx (a b : List Nat) (ha : wf a) (hb : wf b) (hla : a.length ≤ 274877906944) (hlb : b.length ≤ 274877906944) (hle : val b ≤ val a) : CallOk Tryz.prog 187 [wl a, wl b] [] (wl (nw (val a - val b))) [] := by
  have hmx : (if a.length < b.length then (b.length : Int) else (a.length : Int)) = ((max a.length b.length : Nat) : Int) := by split <;> omega
  have hN1 : a.length ≤ max a.length b.length := Nat.le_max_left _ _
  have hN2 : b.length ≤ max a.length b.length := Nat.le_max_right _ _
  have hN3 : max a.length b.length ≤ 274877906944 := by omega
  generalize hNe : max a.length b.length = N at *
  have hrep : List.replicate N (PV.int IntKind.u32 0) = ws (List.replicate N 0) := by simp [ws]
  refine CallOk.of_wl Tryz.func187 rfl rfl rfl (Nat.le_of_ble_eq_true rfl) ?_
  (repeat (first | with_reducible (first | refine WL.seq ?_ | refine WL.skip ?_ | refine WL.label ?_ | refine WL.block ?_ | refine WL.scope ?_ | refine WL.nilS ?_ | refine WL.reS ?_ | refine WL.exS ?_ | refine WL.nilB ?_ | refine WL.nilT ?_ | refine WL.exit ?_ | refine WL.ret ?_ | refine WL.exT ?_ | refine WL.exB ?_ | refine WL.exN rfl ?_ | refine WL.reT ?_ | refine WL.reB ?_) | ((first | refine WL.reg rfl ?_ | refine WL.regT zai rfl ?_); (conv => { arg 3; simp [prep, prep1] }); (repeat (first | (refine zae ?_ ?_; (focus (simp; done)); (conv => { arg 4; simp (disch := omega) [wl, hmx, hrep] }); (first | (first | refine zaa ?_ | (refine zac ?_; (conv => { arg 5; simp }))))) | (refine zab rfl ?_ ?_; (focus (simp; done))))); with_reducible refine zad ?_; (first | refine ⟨rfl, ?_⟩ | refine ⟨by simp [quietB], by simp [quietU], ?_⟩ | skip)) | (refine WL.cond ?_; (conv => { arg 1; simp (disch := omega) [wl, hmx, hrep] }); with_reducible (first | refine zaj ?_ | refine zak ?_ | refine zag (by omega) ?_ | refine zah (by omega) ?_))))
  refine WL.loop (fun m s => ∃ (i w : Nat) (X : List Nat), m = N - i ∧ i ≤ N ∧ s.frame 0 = wl a ∧ s.frame 1 = wl b ∧ s.frame 5 = .int .i64 (N : Int) ∧ s.frame 6 = .sl ⟨17, 0, 0⟩ 0 0 N 1 ∧ s.frame 7 = .int .u64 w ∧ s.frame 8 = .int .i64 i ∧
      s.store ⟨17, 0, 0⟩ = some ⟨0, true, true, ws X⟩ ∧ X.length = N ∧ wf X ∧ w < 2 ∧ val X + val (b.take i) = val (a.take i) + 4294967296 ^ i * w ∧ ∀ j, i ≤ j → X.getD j 0 = 0) N ?_ ?_
  · exact ⟨0, 0, List.replicate N 0, by omega, by omega, by simp [wl], by simp [wl], by simp, by simp, by simp, by simp, by simp, by simp, zck _, by omega, by rw [zce]; simp [val], fun j _ => zcw _ _⟩
  rintro m ⟨f, σ, g⟩ ⟨i, w, X, rfl, hi, h0, h1, h5, h6, h7, h8, hst, hX, hwX, hw, hv, hz⟩
  simp only at h0 h1 h5 h6 h7 h8 hst
  by_cases hi' : i < N
  · have c1 := zmo a i (by omega)
    have c2 := zmo b i (by omega)
    have hx := zbl ha i
    have hy := zbl hb i
    have ta := zdr a i
    have tb := zdr b i
    generalize a.getD i 0 = x at *
    generalize b.getD i 0 = y at *
    have hlen : i < X.length := by omega
    have w1 : (0 : Int) ≤ (y : Int) + w ∧ (y : Int) + w ≤ 18446744073709551615 := by omega
    by_cases hxy : x < y + w
    · have hxyI : (x : Int) < (y : Int) + w := by omega
      obtain ⟨v, hvd⟩ : ∃ v : Nat, x + 4294967296 = v + (y + w) := ⟨x + 4294967296 - (y + w), by omega⟩
      have hvB : v < 4294967296 := by omega
      have hset := zgf v (X := X) (i := i) (by omega)
      rw [hz i (Nat.le_refl _), Nat.mul_zero, Nat.add_zero] at hset
      have hwf := ziq hwX i hvB
      have s0 := zbm (X := X) (i := i) (v := (v : Int)) (by omega) rfl
      have q1 : ((x : Int) + 4294967296) - ((y : Int) + w) = (v : Int) := by omega
      have q2 : (v : Int) % 4294967296 = v := by omega
      have w3 : (0 : Int) ≤ (v : Int) ∧ (v : Int) ≤ 18446744073709551615 := by omega
      have hv2 : val (X.set i v) + val (b.take (i + 1)) = val (a.take (i + 1)) + 4294967296 ^ (i + 1) * 1 := by
        rw [Nat.pow_succ, ta, tb, hset]
        generalize 4294967296 ^ i = P at *
        have e := congrArg (P * ·) hvd
        simp only [Nat.mul_add] at e
        omega
      have hz2 : ∀ j, i + 1 ≤ j → (X.set i v).getD j 0 = 0 := fun j hj => by
        rw [zdf (by omega)]; exact hz j (by omega)
      have hXl : (X.set i v).length = N := by rw [List.length_set, hX]
      clear hset hv ta tb hz hwX
      (repeat (first | with_reducible (first | refine WL.seq ?_ | refine WL.skip ?_ | refine WL.label ?_ | refine WL.block ?_ | refine WL.scope ?_ | refine WL.nilS ?_ | refine WL.reS ?_ | refine WL.exS ?_ | refine WL.nilB ?_ | refine WL.nilT ?_ | refine WL.exit ?_ | refine WL.ret ?_ | refine WL.exT ?_ | refine WL.exB ?_ | refine WL.exN rfl ?_ | refine WL.reT ?_ | refine WL.reB ?_) | ((first | refine WL.reg rfl ?_ | refine WL.regT zai rfl ?_); (conv => { arg 3; simp [prep, prep1] }); (repeat (first | (refine zae ?_ ?_; (focus (simp; done)); (conv => { arg 4; simp (disch := omega) [h0, h1, h5, h6, h7, h8, hst, hi', hX, hlen, w32, hxyI, q1, q2, s0] }); (first | (first | refine zaa ?_ | (refine zac ?_; (conv => { arg 5; simp }))) | (refine zal true rfl rfl ⟨_, Tryz.func149, rfl, rfl⟩ ?_; (conv => { arg 6; simp (disch := omega) [h0, h1, h5, h6, h7, h8, hst, hi', hX, hlen, w32, hxyI, q1, q2, s0] }); (first | refine zaf (c1) rfl ?_ | refine zaf (c2) rfl ?_); (conv => { arg 5; simp (disch := omega) [h0, h1, h5, h6, h7, h8, hst, hi', hX, hlen, w32, hxyI, q1, q2, s0] })))) | (refine zab rfl ?_ ?_; (focus (simp; done))))); with_reducible refine zad ?_; (first | refine ⟨rfl, ?_⟩ | refine ⟨by simp [quietB], by simp [quietU], ?_⟩ | skip)) | (refine WL.cond ?_; (conv => { arg 1; simp (disch := omega) [h0, h1, h5, h6, h7, h8, hst, hi', hX, hlen, w32, hxyI, q1, q2, s0] }); with_reducible (first | refine zaj ?_ | refine zak ?_ | refine zag (by omega) ?_ | refine zah (by omega) ?_))))
      exact ⟨N - (i + 1), by omega, i + 1, 1, X.set i v, rfl, by omega, by simp [h0], by simp [h1], by simp [h5], by simp [h6], by simp, by simp, by simp, hXl, hwf, by omega, hv2, hz2⟩
    · have hxyI : ¬ (x : Int) < (y : Int) + w := by omega
      obtain ⟨v, hvd⟩ : ∃ v : Nat, x = v + (y + w) := ⟨x - (y + w), by omega⟩
      have hvB : v < 4294967296 := by omega
      have hset := zgf v (X := X) (i := i) (by omega)
      rw [hz i (Nat.le_refl _), Nat.mul_zero, Nat.add_zero] at hset
      have hwf := ziq hwX i hvB
      have s0 := zbm (X := X) (i := i) (v := (v : Int)) (by omega) rfl
      have q1 : (x : Int) - ((y : Int) + w) = (v : Int) := by omega
      have q2 : (v : Int) % 4294967296 = v := by omega
      have w3 : (0 : Int) ≤ (v : Int) ∧ (v : Int) ≤ 18446744073709551615 := by omega
      have hv2 : val (X.set i v) + val (b.take (i + 1)) = val (a.take (i + 1)) + 4294967296 ^ (i + 1) * 0 := by
        rw [Nat.pow_succ, ta, tb, hset]
        generalize 4294967296 ^ i = P at *
        have e := congrArg (P * ·) hvd
        simp only [Nat.mul_add] at e
        omega
      have hz2 : ∀ j, i + 1 ≤ j → (X.set i v).getD j 0 = 0 := fun j hj => by
        rw [zdf (by omega)]; exact hz j (by omega)
      have hXl : (X.set i v).length = N := by rw [List.length_set, hX]
      clear hset hv ta tb hz hwX
      (repeat (first | with_reducible (first | refine WL.seq ?_ | refine WL.skip ?_ | refine WL.label ?_ | refine WL.block ?_ | refine WL.scope ?_ | refine WL.nilS ?_ | refine WL.reS ?_ | refine WL.exS ?_ | refine WL.nilB ?_ | refine WL.nilT ?_ | refine WL.exit ?_ | refine WL.ret ?_ | refine WL.exT ?_ | refine WL.exB ?_ | refine WL.exN rfl ?_ | refine WL.reT ?_ | refine WL.reB ?_) | ((first | refine WL.reg rfl ?_ | refine WL.regT zai rfl ?_); (conv => { arg 3; simp [prep, prep1] }); (repeat (first | (refine zae ?_ ?_; (focus (simp; done)); (conv => { arg 4; simp (disch := omega) [h0, h1, h5, h6, h7, h8, hst, hi', hX, hlen, w32, hxyI, q1, q2, s0] }); (first | (first | refine zaa ?_ | (refine zac ?_; (conv => { arg 5; simp }))) | (refine zal true rfl rfl ⟨_, Tryz.func149, rfl, rfl⟩ ?_; (conv => { arg 6; simp (disch := omega) [h0, h1, h5, h6, h7, h8, hst, hi', hX, hlen, w32, hxyI, q1, q2, s0] }); (first | refine zaf (c1) rfl ?_ | refine zaf (c2) rfl ?_); (conv => { arg 5; simp (disch := omega) [h0, h1, h5, h6, h7, h8, hst, hi', hX, hlen, w32, hxyI, q1, q2, s0] })))) | (refine zab rfl ?_ ?_; (focus (simp; done))))); with_reducible refine zad ?_; (first | refine ⟨rfl, ?_⟩ | refine ⟨by simp [quietB], by simp [quietU], ?_⟩ | skip)) | (refine WL.cond ?_; (conv => { arg 1; simp (disch := omega) [h0, h1, h5, h6, h7, h8, hst, hi', hX, hlen, w32, hxyI, q1, q2, s0] }); with_reducible (first | refine zaj ?_ | refine zak ?_ | refine zag (by omega) ?_ | refine zah (by omega) ?_))))
      exact ⟨N - (i + 1), by omega, i + 1, 0, X.set i v, rfl, by omega, by simp [h0], by simp [h1], by simp [h5], by simp [h6], by simp, by simp, by simp, hXl, hwf, by omega, hv2, hz2⟩
  · have hia : i = N := by omega
    subst hia
    rw [zee (by omega), zee (by omega)] at hv
    have hXv : val X = val a - val b := by
      rcases Nat.eq_zero_or_pos w with h | h
      · rw [h, Nat.mul_zero] at hv; omega
      · exfalso
        have := zax hwX
        rw [hX] at this
        have hw1 : w = 1 := by omega
        rw [hw1, Nat.mul_one] at hv
        omega
    have cN := zdp X hwX (by omega)
    rw [hXv, zmg, hX] at cN
    have hall : (ws X).take i = ws X := by rw [← hX, zbc]
    (repeat (first | with_reducible (first | refine WL.seq ?_ | refine WL.skip ?_ | refine WL.label ?_ | refine WL.block ?_ | refine WL.scope ?_ | refine WL.nilS ?_ | refine WL.reS ?_ | refine WL.exS ?_ | refine WL.nilB ?_ | refine WL.nilT ?_ | refine WL.exit ?_ | refine WL.ret ?_ | refine WL.exT ?_ | refine WL.exB ?_ | refine WL.exN rfl ?_ | refine WL.reT ?_ | refine WL.reB ?_) | ((first | refine WL.reg rfl ?_ | refine WL.regT zai rfl ?_); (conv => { arg 3; simp [prep, prep1] }); (repeat (first | (refine zae ?_ ?_; (focus (simp; done)); (conv => { arg 4; simp (disch := omega) [h0, h1, h5, h6, h7, h8, hst, hX, hall] }); (first | (first | refine zaa ?_ | (refine zac ?_; (conv => { arg 5; simp }))) | (refine zal true rfl rfl ⟨_, Tryz.func68, rfl, rfl⟩ ?_; (conv => { arg 6; simp (disch := omega) [h0, h1, h5, h6, h7, h8, hst, hX, hall] }); refine zaf (cN) rfl ?_; (conv => { arg 5; simp (disch := omega) [h0, h1, h5, h6, h7, h8, hst, hX, hall] })))) | (refine zab rfl ?_ ?_; (focus (simp; done))))); with_reducible refine zad ?_; (first | refine ⟨rfl, ?_⟩ | refine ⟨by simp [quietB], by simp [quietU], ?_⟩ | skip)) | (refine WL.cond ?_; (conv => { arg 1; simp (disch := omega) [h0, h1, h5, h6, h7, h8, hst, hX, hall] }); with_reducible (first | refine zaj ?_ | refine zak ?_ | refine zag (by omega) ?_ | refine zah (by omega) ?_))))
    refine ⟨[], ?_⟩
    simp (disch := omega) 
theorem mul_step {P vY vY' o s p c vX A : Nat} (hset : vY' + P * o = vY + P * (s % 4294967296)) (hs : s = c + (p + o)) (hv : vY + P * c = vX + A) : vY' + P * 4294967296 * (s / 4294967296) = vX + (A + P * p) := by
  have h1 := zjp P s
  have h2 : P * s = P * c + (P * p + P * o) := by rw [hs, Nat.mul_add, Nat.mul_add]
  omega
theorem zgu (a b : List Nat) (ha : wf a) (hb : wf b) (hl : a.length + b.length ≤ 1099511627776) : CallOk Tryz.prog 137 [wl a, wl b] [] (wl (nw (val a * val b))) [] := by
  have hT : ((a.length : Int) + (b.length : Int)).toNat = a.length + b.length := by omega
  have hrep : List.replicate (a.length + b.length) (PV.int IntKind.u32 0) = ws (List.replicate (a.length + b.length) 0) := by simp [ws]
  refine CallOk.of_wl Tryz.func137 rfl rfl rfl (Nat.le_of_ble_eq_true rfl) ?_
  (repeat (first | with_reducible (first | refine WL.seq ?_ | refine WL.skip ?_ | refine WL.label ?_ | refine WL.block ?_ | refine WL.scope ?_ | refine WL.nilS ?_ | refine WL.reS ?_ | refine WL.exS ?_ | refine WL.nilB ?_ | refine WL.nilT ?_ | refine WL.exit ?_ | refine WL.ret ?_ | refine WL.exT ?_ | refine WL.exB ?_ | refine WL.exN rfl ?_ | refine WL.reT ?_ | refine WL.reB ?_) | ((first | refine WL.reg rfl ?_ | refine WL.regT zai rfl ?_); (conv => { arg 3; simp [prep, prep1] }); (repeat (first | (refine zae ?_ ?_; (focus (simp; done)); (conv => { arg 4; simp (disch := omega) [wl, hT, hrep] }); (first | (first | refine zaa ?_ | (refine zac ?_; (conv => { arg 5; simp }))))) | (refine zab rfl ?_ ?_; (focus (simp; done))))); with_reducible refine zad ?_; (first | refine ⟨rfl, ?_⟩ | refine ⟨by simp [quietB], by simp [quietU], ?_⟩ | skip)) | (refine WL.cond ?_; (conv => { arg 1; simp (disch := omega) [wl, hT, hrep] }); with_reducible (first | refine zaj ?_ | refine zak ?_ | refine zag (by omega) ?_ | refine zah (by omega) ?_))))
  refine WL.loop (fun m s => ∃ (i : Nat) (X : List Nat), m = a.length - i ∧ i ≤ a.length ∧ s.frame 0 = wl a ∧ s.frame 1 = wl b ∧ s.frame 5 = .sl ⟨14, 0, 0⟩ 0 0 (a.length + b.length) 1 ∧ s.frame 6 = .int .i64 i ∧
      s.store ⟨14, 0, 0⟩ = some ⟨0, true, true, ws X⟩ ∧ X.length = a.length + b.length ∧ wf X ∧ val X = val (a.take i) * val b ∧ ∀ j, b.length + i ≤ j → X.getD j 0 = 0) a.length ?_ ?_
  · exact ⟨0, List.replicate (a.length + b.length) 0, by omega, by omega, by simp [wl], by simp [wl], by simp, by simp, by simp, by simp, zck _, by rw [zce]; simp [val], fun j _ => zcw _ _⟩
  rintro m ⟨f, σ, g⟩ ⟨i, X, rfl, hi, h0, h1, h5, h6, hst, hX, hwX, hv, hz⟩
  simp only at h0 h1 h5 h6 hst
  by_cases hi' : i < a.length
  · have hA := zbk hi'
    have hx := zbl ha i
    have ta := zdr a i
    generalize a.getD i 0 = x at *
    (repeat (first | with_reducible (first | refine WL.seq ?_ | refine WL.skip ?_ | refine WL.label ?_ | refine WL.block ?_ | refine WL.scope ?_ | refine WL.nilS ?_ | refine WL.reS ?_ | refine WL.exS ?_ | refine WL.nilB ?_ | refine WL.nilT ?_ | refine WL.exit ?_ | refine WL.ret ?_ | refine WL.exT ?_ | refine WL.exB ?_ | refine WL.exN rfl ?_ | refine WL.reT ?_ | refine WL.reB ?_) | ((first | refine WL.reg rfl ?_ | refine WL.regT zai rfl ?_); (conv => { arg 3; simp [prep, prep1] }); (repeat (first | (refine zae ?_ ?_; (focus (simp; done)); (conv => { arg 4; simp (disch := omega) [h0, wl, h6, hi'] }); (first | (first | refine zaa ?_ | (refine zac ?_; (conv => { arg 5; simp }))))) | (refine zab rfl ?_ ?_; (focus (simp; done))))); with_reducible refine zad ?_; (first | refine ⟨rfl, ?_⟩ | refine ⟨by simp [quietB], by simp [quietU], ?_⟩ | skip)) | (refine WL.cond ?_; (conv => { arg 1; simp (disch := omega) [h0, wl, h6, hi'] }); with_reducible (first | refine zaj ?_ | refine zak ?_ | refine zag (by omega) ?_ | refine zah (by omega) ?_))))
    refine WL.loop (fun m s => ∃ (k c : Nat) (Y : List Nat), m = b.length - k ∧ k ≤ b.length ∧ s.frame 0 = wl a ∧ s.frame 1 = wl b ∧ s.frame 5 = .sl ⟨14, 0, 0⟩ 0 0 (a.length + b.length) 1 ∧ s.frame 6 = .int .i64 i ∧ s.frame 7 = .int .u64 c ∧ s.frame 8 = .int .i64 k ∧
      s.store ⟨14, 0, 0⟩ = some ⟨0, true, true, ws Y⟩ ∧ Y.length = a.length + b.length ∧ wf Y ∧ c < 4294967296 ∧ val Y + 4294967296 ^ (i + k) * c = val X + 4294967296 ^ i * x * val (b.take k) ∧ ∀ j, b.length + i ≤ j → Y.getD j 0 = 0) b.length ?_ ?_
    · exact ⟨0, 0, X, by omega, by omega, by simp [h0, wl], by simp [h1], by simp [h5], by simp [h6], by simp, by simp, by simp [hst], hX, hwX, by omega, by simp [val], hz⟩
    clear h0 h1 h5 h6 hst
    rintro m ⟨f, σ, g2⟩ ⟨k, c, Y, rfl, hk, h0, h1, h5, h6, h7, h8, hst, hY, hwY, hc, hvY, hzY⟩
    simp only at h0 h1 h5 h6 h7 h8 hst
    by_cases hk' : k < b.length
    · have hB := zbk hk'
      have hy := zbl hb k
      have ho := zbl hwY (i + k)
      have tb := zdr b k
      have hset0 := fun v => zgf v (X := Y) (i := i + k) (by omega)
      have hO := zbk (X := Y) (i := i + k) (by omega)
      generalize b.getD k 0 = y at *
      generalize Y.getD (i + k) 0 = o at *
      have hcy := zgl hx hy ho hc
      have hpB := zrk hx hy
      have hpI : (x : Int) * (y : Int) = ((x * y : Nat) : Int) := by simp
      have hs1 : x * y + o + c = c + (x * y + o) := by omega
      rw [hs1] at hcy
      have hstep := mul_step (hset0 ((c + (x * y + o)) % 4294967296)) rfl hvY
      have hnum : val X + (4294967296 ^ i * x * val (b.take k) + 4294967296 ^ (i + k) * (x * y)) = val X + 4294967296 ^ i * x * val (b.take (k + 1)) := by
        rw [tb, Nat.mul_add, Nat.pow_add]
        congr 2
        simp only [Nat.mul_comm, Nat.mul_left_comm, Nat.mul_assoc]
      rw [hnum] at hstep
      rw [show 4294967296 ^ (i + k) * 4294967296 = 4294967296 ^ (i + (k + 1)) from rfl] at hstep
      have hwf := ziq hwY (i + k) (v := (c + (x * y + o)) % 4294967296) (Nat.mod_lt _ (by decide))
      have s0 := zbm (X := Y) (i := i + k) (v := (((c + (x * y + o)) % 4294967296 : Nat) : Int)) (by omega) rfl
      generalize x * y = p at *
      have q1 : ((c : Int) + ((p : Int) + (o : Int))).tmod 4294967296 = (((c + (p + o)) % 4294967296 : Nat) : Int) := rfl
      have q2 : ((c : Int) + ((p : Int) + (o : Int))).tdiv 4294967296 = (((c + (p + o)) / 4294967296 : Nat) : Int) := rfl
      have q3 : ((((c + (p + o)) % 4294967296 : Nat) : Int)) % 4294967296 = (((c + (p + o)) % 4294967296 : Nat) : Int) := by omega
      have hz2 : ∀ j, b.length + i ≤ j → (Y.set (i + k) ((c + (p + o)) % 4294967296)).getD j 0 = 0 := fun j hj => by
        rw [zdf (by omega)]; exact hzY j (by omega)
      have hYl : (Y.set (i + k) ((c + (p + o)) % 4294967296)).length = a.length + b.length := by rw [List.length_set, hY]
      have w1 : (0 : Int) ≤ (p : Int) + o ∧ (p : Int) + o ≤ 18446744073709551615 := by omega
      have w2 : (0 : Int) ≤ (c : Int) + ((p : Int) + o) ∧ (c : Int) + ((p : Int) + o) ≤ 18446744073709551615 := by omega
      clear hset0 hnum hvY hv ta tb hz hzY hwX hwY hs1
      generalize (c + (p + o)) / 4294967296 = c' at *
      generalize (c + (p + o)) % 4294967296 = v at *
      have hik : ((i : Int) + k).toNat = i + k := by omega
      have hikl : i + k < a.length + b.length := by omega
      have hlen : i + k < Y.length := by omega
      (repeat (first | with_reducible (first | refine WL.seq ?_ | refine WL.skip ?_ | refine WL.label ?_ | refine WL.block ?_ | refine WL.scope ?_ | refine WL.nilS ?_ | refine WL.reS ?_ | refine WL.exS ?_ | refine WL.nilB ?_ | refine WL.nilT ?_ | refine WL.exit ?_ | refine WL.ret ?_ | refine WL.exT ?_ | refine WL.exB ?_ | refine WL.exN rfl ?_ | refine WL.reT ?_ | refine WL.reB ?_) | ((first | refine WL.reg rfl ?_ | refine WL.regT zai rfl ?_); (conv => { arg 3; simp [prep, prep1] }); (repeat (first | (refine zae ?_ ?_; (focus (simp; done)); (conv => { arg 4; simp (disch := omega) [h0, h1, h5, h6, h7, h8, wl, hst, hi', hk', hA, hB, hO, hY, hik, hikl, hlen, hpI, q1, q2, q3, s0] }); (first | (first | refine zaa ?_ | (refine zac ?_; (conv => { arg 5; simp }))))) | (refine zab rfl ?_ ?_; (focus (simp; done))))); with_reducible refine zad ?_; (first | refine ⟨rfl, ?_⟩ | refine ⟨by simp [quietB], by simp [quietU], ?_⟩ | skip)) | (refine WL.cond ?_; (conv => { arg 1; simp (disch := omega) [h0, h1, h5, h6, h7, h8, wl, hst, hi', hk', hA, hB, hO, hY, hik, hikl, hlen, hpI, q1, q2, q3, s0] }); with_reducible (first | refine zaj ?_ | refine zak ?_ | refine zag (by omega) ?_ | refine zah (by omega) ?_))))
      exact ⟨b.length - (k + 1), by omega, k + 1, c', Y.set (i + k) v, rfl, by omega, by simp [h0, wl], by simp [h1, wl], by simp [h5], by simp [h6], by simp, by simp, by simp, hYl, hwf, hcy, hstep, hz2⟩
    · have hkb : k = b.length := by omega
      subst hkb
      rw [List.take_length] at hvY
      have hset := zgf c (X := Y) (i := i + b.length) (by omega)
      rw [hzY (i + b.length) (by omega), Nat.mul_zero, Nat.add_zero] at hset
      have hwf := ziq hwY (i + b.length) (v := c) hc
      have s0 := zbm (X := Y) (i := i + b.length) (v := (c : Int)) (by omega) rfl
      have q3 : (c : Int) % 4294967296 = c := by omega
      have hik : ((i : Int) + b.length).toNat = i + b.length := by omega
      have hikl : i + b.length < a.length + b.length := by omega
      have hlen : i + b.length < Y.length := by omega
      have hv2 : val (Y.set (i + b.length) c) = val (a.take (i + 1)) * val b := by
        rw [hset, hvY, ta, hv, Nat.add_mul]
      have hz2 : ∀ j, b.length + (i + 1) ≤ j → (Y.set (i + b.length) c).getD j 0 = 0 := fun j hj => by
        rw [zdf (by omega)]; exact hzY j (by omega)
      have hYl : (Y.set (i + b.length) c).length = a.length + b.length := by rw [List.length_set, hY]
      clear hset hvY hv ta hz hzY hwX hwY
      (repeat (first | with_reducible (first | refine WL.seq ?_ | refine WL.skip ?_ | refine WL.label ?_ | refine WL.block ?_ | refine WL.scope ?_ | refine WL.nilS ?_ | refine WL.reS ?_ | refine WL.exS ?_ | refine WL.nilB ?_ | refine WL.nilT ?_ | refine WL.exit ?_ | refine WL.ret ?_ | refine WL.exT ?_ | refine WL.exB ?_ | refine WL.exN rfl ?_ | refine WL.reT ?_ | refine WL.reB ?_) | ((first | refine WL.reg rfl ?_ | refine WL.regT zai rfl ?_); (conv => { arg 3; simp [prep, prep1] }); (repeat (first | (refine zae ?_ ?_; (focus (simp; done)); (conv => { arg 4; simp (disch := omega) [h0, h1, h5, h6, h7, h8, wl, hst, hY, hik, hikl, hlen, q3, s0] }); (first | (first | refine zaa ?_ | (refine zac ?_; (conv => { arg 5; simp }))))) | (refine zab rfl ?_ ?_; (focus (simp; done))))); with_reducible refine zad ?_; (first | refine ⟨rfl, ?_⟩ | refine ⟨by simp [quietB], by simp [quietU], ?_⟩ | skip)) | (refine WL.cond ?_; (conv => { arg 1; simp (disch := omega) [h0, h1, h5, h6, h7, h8, wl, hst, hY, hik, hikl, hlen, q3, s0] }); with_reducible (first | refine zaj ?_ | refine zak ?_ | refine zag (by omega) ?_ | refine zah (by omega) ?_))))
      exact ⟨a.length - (i + 1), by omega, i + 1, Y.set (i + b.length) c, rfl, by omega, by simp [h0, wl], by simp [h1, wl], by simp [h5], by simp, by simp, hYl, hwf, hv2, hz2⟩
  · have hia : i = a.length := by omega
    subst hia
    rw [List.take_length] at hv
    have cN := zdp X hwX (by omega)
    rw [hv, zmg, hX] at cN
    have hall : (ws X).take (a.length + b.length) = ws X := by rw [← hX, zbc]
    (repeat (first | with_reducible (first | refine WL.seq ?_ | refine WL.skip ?_ | refine WL.label ?_ | refine WL.block ?_ | refine WL.scope ?_ | refine WL.nilS ?_ | refine WL.reS ?_ | refine WL.exS ?_ | refine WL.nilB ?_ | refine WL.nilT ?_ | refine WL.exit ?_ | refine WL.ret ?_ | refine WL.exT ?_ | refine WL.exB ?_ | refine WL.exN rfl ?_ | refine WL.reT ?_ | refine WL.reB ?_) | ((first | refine WL.reg rfl ?_ | refine WL.regT zai rfl ?_); (conv => { arg 3; simp [prep, prep1] }); (repeat (first | (refine zae ?_ ?_; (focus (simp; done)); (conv => { arg 4; simp (disch := omega) [h0, wl, h5, h6, hst, hX, hall] }); (first | (first | refine zaa ?_ | (refine zac ?_; (conv => { arg 5; simp }))) | (refine zal true rfl rfl ⟨_, Tryz.func68, rfl, rfl⟩ ?_; (conv => { arg 6; simp (disch := omega) [h0, wl, h5, h6, hst, hX, hall] }); refine zaf (cN) rfl ?_; (conv => { arg 5; simp (disch := omega) [h0, wl, h5, h6, hst, hX, hall] })))) | (refine zab rfl ?_ ?_; (focus (simp; done))))); with_reducible refine zad ?_; (first | refine ⟨rfl, ?_⟩ | refine ⟨by simp [quietB], by simp [quietU], ?_⟩ | skip)) | (refine WL.cond ?_; (conv => { arg 1; simp (disch := omega) [h0, wl, h5, h6, hst, hX, hall] }); with_reducible (first | refine zaj ?_ | refine zak ?_ | refine zag (by omega) ?_ | refine zah (by omega) ?_))))
    refine ⟨[], ?_⟩
    simp (disch := omega) 
theorem div_two_pow (x k : Nat) : x / 2 ^ (k + 1) = x / 2 ^ k / 2 := by rw [Nat.pow_succ, Nat.div_div_eq_div_mul]
theorem refHas (a : List Nat) (i : Nat) (ha : wf a) (hi : i / 32 < a.length) (hl : a.length ≤ 1099511627776) : CallOk Tryz.prog 189 [wl a, .int .i64 i] [] (.bool (decide (val a / 2 ^ i % 2 = 1))) [] := by
  have hb := zri ha i
  have hA := zbk hi
  have hx := zbl ha (i / 32)
  rw [← hb]
  clear hb
  have q1 : (i : Int).tdiv 32 = ((i / 32 : Nat) : Int) := rfl
  have q2 : (i : Int).tmod 32 = ((i % 32 : Nat) : Int) := rfl
  have hr : i % 32 < 32 := Nat.mod_lt _ (by decide)
  have hib : i ≤ 35184372088864 := by omega
  generalize a.getD (i / 32) 0 = x at *
  generalize i / 32 = j at *
  generalize i % 32 = r at *
  have hn0 : ¬ (i : Int) < 0 := by omega
  have hnl2 : ¬ a.length ≤ j := by omega
  refine CallOk.of_wl Tryz.func189 rfl rfl rfl (Nat.le_of_ble_eq_true rfl) ?_
  (repeat (first | with_reducible (first | refine WL.seq ?_ | refine WL.skip ?_ | refine WL.label ?_ | refine WL.block ?_ | refine WL.scope ?_ | refine WL.nilS ?_ | refine WL.reS ?_ | refine WL.exS ?_ | refine WL.nilB ?_ | refine WL.nilT ?_ | refine WL.exit ?_ | refine WL.ret ?_ | refine WL.exT ?_ | refine WL.exB ?_ | refine WL.exN rfl ?_ | refine WL.reT ?_ | refine WL.reB ?_) | ((first | refine WL.reg rfl ?_ | refine WL.regT zai rfl ?_); (conv => { arg 3; simp [prep, prep1] }); (repeat (first | (refine zae ?_ ?_; (focus (simp; done)); (conv => { arg 4; simp (disch := omega) [wl, q1, q2, hn0, hnl2, hi, hA] }); (first | (first | refine zaa ?_ | (refine zac ?_; (conv => { arg 5; simp }))))) | (refine zab rfl ?_ ?_; (focus (simp; done))))); with_reducible refine zad ?_; (first | refine ⟨rfl, ?_⟩ | refine ⟨by simp [quietB], by simp [quietU], ?_⟩ | skip)) | (refine WL.cond ?_; (conv => { arg 1; simp (disch := omega) [wl, q1, q2, hn0, hnl2, hi, hA] }); with_reducible (first | refine zaj ?_ | refine zak ?_ | refine zag (by omega) ?_ | refine zah (by omega) ?_))))
  refine WL.loop (fun m s => ∃ k : Nat, m = r - k ∧ k ≤ r ∧ s.frame 1 = .int .i64 i ∧ s.frame 5 = .int .u32 ((x / 2 ^ k : Nat) : Int) ∧ s.frame 6 = .int .i64 k) r ?_ ?_
  · exact ⟨0, by omega, by omega, by simp, by simp, by simp⟩
  rintro m ⟨f, σ, g⟩ ⟨k, rfl, hk, h1, h5, h6⟩
  simp only at h1 h5 h6
  by_cases hk' : k < r
  · have q3 : ((x / 2 ^ k : Nat) : Int).tdiv 2 = ((x / 2 ^ (k + 1) : Nat) : Int) := by rw [div_two_pow]; rfl
    have hle : x / 2 ^ (k + 1) < 4294967296 := Nat.lt_of_le_of_lt (Nat.div_le_self _ _) hx
    generalize hy2 : x / 2 ^ (k + 1) = y2 at *
    generalize x / 2 ^ k = y at *
    have q4 : (y2 : Int) % 4294967296 = y2 := by omega
    (repeat (first | with_reducible (first | refine WL.seq ?_ | refine WL.skip ?_ | refine WL.label ?_ | refine WL.block ?_ | refine WL.scope ?_ | refine WL.nilS ?_ | refine WL.reS ?_ | refine WL.exS ?_ | refine WL.nilB ?_ | refine WL.nilT ?_ | refine WL.exit ?_ | refine WL.ret ?_ | refine WL.exT ?_ | refine WL.exB ?_ | refine WL.exN rfl ?_ | refine WL.reT ?_ | refine WL.reB ?_) | ((first | refine WL.reg rfl ?_ | refine WL.regT zai rfl ?_); (conv => { arg 3; simp [prep, prep1] }); (repeat (first | (refine zae ?_ ?_; (focus (simp; done)); (conv => { arg 4; simp (disch := omega) [h1, h5, h6, q2, q3, q4, hk'] }); (first | (first | refine zaa ?_ | (refine zac ?_; (conv => { arg 5; simp }))))) | (refine zab rfl ?_ ?_; (focus (simp; done))))); with_reducible refine zad ?_; (first | refine ⟨rfl, ?_⟩ | refine ⟨by simp [quietB], by simp [quietU], ?_⟩ | skip)) | (refine WL.cond ?_; (conv => { arg 1; simp (disch := omega) [h1, h5, h6, q2, q3, q4, hk'] }); with_reducible (first | refine zaj ?_ | refine zak ?_ | refine zag (by omega) ?_ | refine zah (by omega) ?_))))
    exact ⟨r - (k + 1), by omega, k + 1, rfl, by omega, by simp [h1], by rw [hy2]; simp, by simp⟩
  · have hkk : k = r := by omega
    rw [hkk] at h5 h6
    have q3 : ((x / 2 ^ r : Nat) : Int).tmod 2 = ((x / 2 ^ r % 2 : Nat) : Int) := rfl
    have q4 : ((x / 2 ^ r % 2 : Nat) : Int) % 4294967296 = ((x / 2 ^ r % 2 : Nat) : Int) := by
      have : x / 2 ^ r % 2 < 2 := Nat.mod_lt _ (by decide)
      generalize x / 2 ^ r % 2 = z at *
      omega
    generalize x / 2 ^ r % 2 = z at *
    generalize x / 2 ^ r = y at *
    have q5 : decide (z = 1) = decide ((z : Int) = 1) := decide_eq_decide.2 (by omega)
    rw [q5]
    (repeat (first | with_reducible (first | refine WL.seq ?_ | refine WL.skip ?_ | refine WL.label ?_ | refine WL.block ?_ | refine WL.scope ?_ | refine WL.nilS ?_ | refine WL.reS ?_ | refine WL.exS ?_ | refine WL.nilB ?_ | refine WL.nilT ?_ | refine WL.exit ?_ | refine WL.ret ?_ | refine WL.exT ?_ | refine WL.exB ?_ | refine WL.exN rfl ?_ | refine WL.reT ?_ | refine WL.reB ?_) | ((first | refine WL.reg rfl ?_ | refine WL.regT zai rfl ?_); (conv => { arg 3; simp [prep, prep1] }); (repeat (first | (refine zae ?_ ?_; (focus (simp; done)); (conv => { arg 4; simp (disch := omega) [h1, h5, h6, q2, q3, q4] }); (first | (first | refine zaa ?_ | (refine zac ?_; (conv => { arg 5; simp }))))) | (refine zab rfl ?_ ?_; (focus (simp; done))))); with_reducible refine zad ?_; (first | refine ⟨rfl, ?_⟩ | refine ⟨by simp [quietB], by simp [quietU], ?_⟩ | skip)) | (refine WL.cond ?_; (conv => { arg 1; simp (disch := omega) [h1, h5, h6, q2, q3, q4] }); with_reducible (first | refine zaj ?_ | refine zak ?_ | refine zag (by omega) ?_ | refine zah (by omega) ?_))))
    refine ⟨[], ?_⟩
    simp (disch := omega) 
theorem bitL_eq {n m : Nat} (h1 : 2 ^ m ≤ n) (h2 : n < 2 ^ (m + 1)) : bitL n = m + 1 := by
  have a := zky h2
  have b := zia n
  rcases Nat.lt_or_ge m (bitL n) with h | h
  · omega
  · have := Nat.pow_le_pow_right (by decide : 0 < 2) h
    omega
theorem refLen (a : List Nat) (ha : wf a) (hl : a.length ≤ 274877906944) : CallOk Tryz.prog 153 [wl a] [] (.int .i64 (bitL (val a))) [] := by
  have hlt := zax ha
  rw [zom] at hlt
  refine CallOk.of_wl Tryz.func153 rfl rfl rfl (Nat.le_of_ble_eq_true rfl) ?_
  (repeat (first | with_reducible (first | refine WL.seq ?_ | refine WL.skip ?_ | refine WL.label ?_ | refine WL.block ?_ | refine WL.scope ?_ | refine WL.nilS ?_ | refine WL.reS ?_ | refine WL.exS ?_ | refine WL.nilB ?_ | refine WL.nilT ?_ | refine WL.exit ?_ | refine WL.ret ?_ | refine WL.exT ?_ | refine WL.exB ?_ | refine WL.exN rfl ?_ | refine WL.reT ?_ | refine WL.reB ?_) | ((first | refine WL.reg rfl ?_ | refine WL.regT zai rfl ?_); (conv => { arg 3; simp [prep, prep1] }); (repeat (first | (refine zae ?_ ?_; (focus (simp; done)); (conv => { arg 4; simp (disch := omega) [wl] }); (first | (first | refine zaa ?_ | (refine zac ?_; (conv => { arg 5; simp }))))) | (refine zab rfl ?_ ?_; (focus (simp; done))))); with_reducible refine zad ?_; (first | refine ⟨rfl, ?_⟩ | refine ⟨by simp [quietB], by simp [quietU], ?_⟩ | skip)) | (refine WL.cond ?_; (conv => { arg 1; simp (disch := omega) [wl] }); with_reducible (first | refine zaj ?_ | refine zak ?_ | refine zag (by omega) ?_ | refine zah (by omega) ?_))))
  refine WL.loop (fun m s => m ≤ 32 * a.length ∧ s.frame 0 = wl a ∧ s.frame 3 = .int .i64 m ∧ val a < 2 ^ m) (32 * a.length) ?_ ?_
  · exact ⟨by omega, by simp [wl], by simp, hlt⟩
  clear hlt
  rintro m ⟨f, σ, g⟩ ⟨hm, h0, h3, hv⟩
  simp only at h0 h3
  cases m with
  | zero =>
    have hv0 : val a = 0 := by simpa using hv
    (repeat (first | with_reducible (first | refine WL.seq ?_ | refine WL.skip ?_ | refine WL.label ?_ | refine WL.block ?_ | refine WL.scope ?_ | refine WL.nilS ?_ | refine WL.reS ?_ | refine WL.exS ?_ | refine WL.nilB ?_ | refine WL.nilT ?_ | refine WL.exit ?_ | refine WL.ret ?_ | refine WL.exT ?_ | refine WL.exB ?_ | refine WL.exN rfl ?_ | refine WL.reT ?_ | refine WL.reB ?_) | ((first | refine WL.reg rfl ?_ | refine WL.regT zai rfl ?_); (conv => { arg 3; simp [prep, prep1] }); (repeat (first | (refine zae ?_ ?_; (focus (simp; done)); (conv => { arg 4; simp (disch := omega) [h0, h3, wl] }); (first | (first | refine zaa ?_ | (refine zac ?_; (conv => { arg 5; simp }))))) | (refine zab rfl ?_ ?_; (focus (simp; done))))); with_reducible refine zad ?_; (first | refine ⟨rfl, ?_⟩ | refine ⟨by simp [quietB], by simp [quietU], ?_⟩ | skip)) | (refine WL.cond ?_; (conv => { arg 1; simp (disch := omega) [h0, h3, wl] }); with_reducible (first | refine zaj ?_ | refine zak ?_ | refine zag (by omega) ?_ | refine zah (by omega) ?_))))
    refine ⟨[], ?_⟩
    simp (disch := omega) [hv0, zdz]
  | succ m =>
    have c1 := refHas a m ha (by omega) (by omega)
    have hd : val a / 2 ^ m < 2 := by
      rw [Nat.div_lt_iff_lt_mul (Nat.pow_pos (by decide)), ← Nat.pow_succ']
      exact hv
    by_cases hbit : val a / 2 ^ m % 2 = 1
    · have hge : 2 ^ m ≤ val a := by
        have h1 : 1 ≤ val a / 2 ^ m := by
          generalize val a / 2 ^ m = q at *
          omega
        have := (Nat.le_div_iff_mul_le (Nat.pow_pos (by decide))).1 h1
        omega
      have hb := bitL_eq hge hv
      rw [decide_eq_true hbit] at c1
      (repeat (first | with_reducible (first | refine WL.seq ?_ | refine WL.skip ?_ | refine WL.label ?_ | refine WL.block ?_ | refine WL.scope ?_ | refine WL.nilS ?_ | refine WL.reS ?_ | refine WL.exS ?_ | refine WL.nilB ?_ | refine WL.nilT ?_ | refine WL.exit ?_ | refine WL.ret ?_ | refine WL.exT ?_ | refine WL.exB ?_ | refine WL.exN rfl ?_ | refine WL.reT ?_ | refine WL.reB ?_) | ((first | refine WL.reg rfl ?_ | refine WL.regT zai rfl ?_); (conv => { arg 3; simp [prep, prep1] }); (repeat (first | (refine zae ?_ ?_; (focus (simp; done)); (conv => { arg 4; simp (disch := omega) [h0, h3, wl] }); (first | (first | refine zaa ?_ | (refine zac ?_; (conv => { arg 5; simp }))) | (refine zal true rfl rfl ⟨_, Tryz.func189, rfl, rfl⟩ ?_; (conv => { arg 6; simp (disch := omega) [h0, h3, wl] }); refine zaf (c1) rfl ?_; (conv => { arg 5; simp (disch := omega) [h0, h3, wl] })))) | (refine zab rfl ?_ ?_; (focus (simp; done))))); with_reducible refine zad ?_; (first | refine ⟨rfl, ?_⟩ | refine ⟨by simp [quietB], by simp [quietU], ?_⟩ | skip)) | (refine WL.cond ?_; (conv => { arg 1; simp (disch := omega) [h0, h3, wl] }); with_reducible (first | refine zaj ?_ | refine zak ?_ | refine zag (by omega) ?_ | refine zah (by omega) ?_))))
      refine ⟨[], ?_⟩
      simp (disch := omega) [hb]
    · have hlt : val a < 2 ^ m := by
        have h1 : val a / 2 ^ m = 0 := by
          generalize val a / 2 ^ m = q at *
          omega
        exact (Nat.div_eq_zero_iff_lt (Nat.pow_pos (by decide))).1 h1
      rw [decide_eq_false hbit] at c1
      (repeat (first | with_reducible (first | refine WL.seq ?_ | refine WL.skip ?_ | refine WL.label ?_ | refine WL.block ?_ | refine WL.scope ?_ | refine WL.nilS ?_ | refine WL.reS ?_ | refine WL.exS ?_ | refine WL.nilB ?_ | refine WL.nilT ?_ | refine WL.exit ?_ | refine WL.ret ?_ | refine WL.exT ?_ | refine WL.exB ?_ | refine WL.exN rfl ?_ | refine WL.reT ?_ | refine WL.reB ?_) | ((first | refine WL.reg rfl ?_ | refine WL.regT zai rfl ?_); (conv => { arg 3; simp [prep, prep1] }); (repeat (first | (refine zae ?_ ?_; (focus (simp; done)); (conv => { arg 4; simp (disch := omega) [h0, h3, wl] }); (first | (first | refine zaa ?_ | (refine zac ?_; (conv => { arg 5; simp }))) | (refine zal true rfl rfl ⟨_, Tryz.func189, rfl, rfl⟩ ?_; (conv => { arg 6; simp (disch := omega) [h0, h3, wl] }); refine zaf (c1) rfl ?_; (conv => { arg 5; simp (disch := omega) [h0, h3, wl] })))) | (refine zab rfl ?_ ?_; (focus (simp; done))))); with_reducible refine zad ?_; (first | refine ⟨rfl, ?_⟩ | refine ⟨by simp [quietB], by simp [quietU], ?_⟩ | skip)) | (refine WL.cond ?_; (conv => { arg 1; simp (disch := omega) [h0, h3, wl] }); with_reducible (first | refine zaj ?_ | refine zak ?_ | refine zag (by omega) ?_ | refine zah (by omega) ?_))))
      exact ⟨m, by omega, by omega, by simp [h0, wl], by simp, hlt⟩
theorem zlp (v : Nat) (O : List Nat) (n : Nat) (more : Bool) (hn : O.length = n) (hO : wf O) (hl : n ≤ 4398046511104) :
    CallOk Tryz.prog 157 [.sl ⟨0, 0, 0⟩ v 0 n 1, .bool more] [⟨v, true, true, ws O⟩] (.tup []) [⟨v, true, true, ws (dblL O (if more then 1 else 0))⟩] := by
  have key : ∀ (f : Nat → PV) (σ : Id → Option Blk) (g : Nat → Nat) (c0 : Nat), c0 < 2 → f 0 = .sl ⟨0, 0, 0⟩ v 0 n 1 → f 4 = .int .u32 c0 → f 5 = .int .i64 0 → σ ⟨0, 0, 0⟩ = some ⟨v, true, true, ws O⟩ →
      ∃ Iv : Nat → St → Prop, Iv n ⟨f, σ, g⟩ ∧ ∀ m s, Iv m s → ∃ (i c : Nat) (pre : List Nat), m = n - i ∧ i ≤ n ∧ s.frame 0 = .sl ⟨0, 0, 0⟩ v 0 n 1 ∧ s.frame 4 = .int .u32 c ∧ s.frame 5 = .int .i64 i ∧
      s.store ⟨0, 0, 0⟩ = some ⟨v, true, true, ws (pre ++ O.drop i)⟩ ∧ pre.length = i ∧ c < 2 ∧ pre ++ dblL (O.drop i) c = dblL O c0 := by
    intro f σ g c0 hc h0 h4 h5 hst
    exact ⟨fun m s => ∃ (i c : Nat) (pre : List Nat), m = n - i ∧ i ≤ n ∧ s.frame 0 = .sl ⟨0, 0, 0⟩ v 0 n 1 ∧ s.frame 4 = .int .u32 c ∧ s.frame 5 = .int .i64 i ∧
      s.store ⟨0, 0, 0⟩ = some ⟨v, true, true, ws (pre ++ O.drop i)⟩ ∧ pre.length = i ∧ c < 2 ∧ pre ++ dblL (O.drop i) c = dblL O c0, ⟨0, c0, [], by omega, by omega, h0, h4, h5, by simpa using hst, rfl, hc, by simp⟩, fun m s h => h⟩
  clear key
  cases more
  all_goals
    refine CallOk.of_wl Tryz.func157 rfl rfl rfl (Nat.le_of_ble_eq_true rfl) ?_
    (repeat (first | with_reducible (first | refine WL.seq ?_ | refine WL.skip ?_ | refine WL.label ?_ | refine WL.block ?_ | refine WL.scope ?_ | refine WL.nilS ?_ | refine WL.reS ?_ | refine WL.exS ?_ | refine WL.nilB ?_ | refine WL.nilT ?_ | refine WL.exit ?_ | refine WL.ret ?_ | refine WL.exT ?_ | refine WL.exB ?_ | refine WL.exN rfl ?_ | refine WL.reT ?_ | refine WL.reB ?_) | ((first | refine WL.reg rfl ?_ | refine WL.regT zai rfl ?_); (conv => { arg 3; simp [prep, prep1] }); (repeat (first | (refine zae ?_ ?_; (focus (simp; done)); (conv => { arg 4; simp (disch := omega)  }); (first | (first | refine zaa ?_ | (refine zac ?_; (conv => { arg 5; simp }))))) | (refine zab rfl ?_ ?_; (focus (simp; done))))); with_reducible refine zad ?_; (first | refine ⟨rfl, ?_⟩ | refine ⟨by simp [quietB], by simp [quietU], ?_⟩ | skip)) | (refine WL.cond ?_; (conv => { arg 1; simp (disch := omega)  }); with_reducible (first | refine zaj ?_ | refine zak ?_ | refine zag (by omega) ?_ | refine zah (by omega) ?_))))
  · refine WL.loop (fun m s => ∃ (i c : Nat) (pre : List Nat), m = n - i ∧ i ≤ n ∧ s.frame 0 = .sl ⟨0, 0, 0⟩ v 0 n 1 ∧ s.frame 4 = .int .u32 c ∧ s.frame 5 = .int .i64 i ∧
      s.store ⟨0, 0, 0⟩ = some ⟨v, true, true, ws (pre ++ O.drop i)⟩ ∧ pre.length = i ∧ c < 2 ∧ pre ++ dblL (O.drop i) c = dblL O 0) n ?_ ?_
    · exact ⟨0, 0, [], by omega, by omega, by simp, by simp, by simp, by simp [stOf], rfl, by omega, by simp⟩
    rintro m ⟨f, σ, g⟩ ⟨i, c, pre, rfl, hi, h0, h4, h5, hst, hpre, hc, hT⟩
    simp only at h0 h4 h5 hst
    by_cases hi' : i < n
    · have hx := zbl hO i
      have hd := zaz (X := O) (i := i) (by omega)
      rw [hd] at hst hT
      simp only [dblL] at hT
      generalize O.getD i 0 = x at *
      have r0 : (ws (pre ++ x :: O.drop (i + 1)))[i]? = some (.int .u32 (x : Int)) := by
        rw [zbk (by simp; omega), zkp hpre]
      have s0 := zbm (X := pre ++ x :: O.drop (i + 1)) (i := i) (v := (((x * 2 + c) % 4294967296 : Nat) : Int)) (by simp; omega) rfl
      rw [zgk hpre] at s0
      have q1 : (x : Int).tdiv 2147483648 = ((x / 2147483648 : Nat) : Int) := rfl
      have q2 : ((x : Int) * 2 % 4294967296 + c) % 4294967296 = (((x * 2 + c) % 4294967296 : Nat) : Int) := by omega
      have q3 : ((x / 2147483648 : Nat) : Int) % 4294967296 = ((x / 2147483648 : Nat) : Int) := by omega
      have hc2 : x / 2147483648 < 2 := by omega
      generalize (x * 2 + c) % 4294967296 = w at *
      generalize x / 2147483648 = c2 at *
      have hlen : i < pre.length + (1 + (O.length - (i + 1))) := by omega
      simp only [List.append_assoc, List.cons_append, List.nil_append] at s0
      (repeat (first | with_reducible (first | refine WL.seq ?_ | refine WL.skip ?_ | refine WL.label ?_ | refine WL.block ?_ | refine WL.scope ?_ | refine WL.nilS ?_ | refine WL.reS ?_ | refine WL.exS ?_ | refine WL.nilB ?_ | refine WL.nilT ?_ | refine WL.exit ?_ | refine WL.ret ?_ | refine WL.exT ?_ | refine WL.exB ?_ | refine WL.exN rfl ?_ | refine WL.reT ?_ | refine WL.reB ?_) | ((first | refine WL.reg rfl ?_ | refine WL.regT zai rfl ?_); (conv => { arg 3; simp [prep, prep1] }); (repeat (first | (refine zae ?_ ?_; (focus (simp; done)); (conv => { arg 4; simp (disch := omega) [h0, h4, h5, hst, hi', r0, s0, q1, q2, q3, hlen] }); (first | (first | refine zaa ?_ | (refine zac ?_; (conv => { arg 5; simp }))))) | (refine zab rfl ?_ ?_; (focus (simp; done))))); with_reducible refine zad ?_; (first | refine ⟨rfl, ?_⟩ | refine ⟨by simp [quietB], by simp [quietU], ?_⟩ | skip)) | (refine WL.cond ?_; (conv => { arg 1; simp (disch := omega) [h0, h4, h5, hst, hi', r0, s0, q1, q2, q3, hlen] }); with_reducible (first | refine zaj ?_ | refine zak ?_ | refine zag (by omega) ?_ | refine zah (by omega) ?_))))
      exact ⟨n - (i + 1), by omega, i + 1, c2, pre ++ [w], rfl, by omega, by simp [h0], by simp, by simp, by simp, by simp [hpre], hc2, by rw [← hT]; simp⟩
    · have hia : i = n := by omega
      subst hia
      rw [List.drop_of_length_le (by omega)] at hT hst
      simp only [dblL, List.append_nil] at hT hst
      rw [hT] at hst
      (repeat (first | with_reducible (first | refine WL.seq ?_ | refine WL.skip ?_ | refine WL.label ?_ | refine WL.block ?_ | refine WL.scope ?_ | refine WL.nilS ?_ | refine WL.reS ?_ | refine WL.exS ?_ | refine WL.nilB ?_ | refine WL.nilT ?_ | refine WL.exit ?_ | refine WL.ret ?_ | refine WL.exT ?_ | refine WL.exB ?_ | refine WL.exN rfl ?_ | refine WL.reT ?_ | refine WL.reB ?_) | ((first | refine WL.reg rfl ?_ | refine WL.regT zai rfl ?_); (conv => { arg 3; simp [prep, prep1] }); (repeat (first | (refine zae ?_ ?_; (focus (simp; done)); (conv => { arg 4; simp (disch := omega) [h0, h4, h5, hst] }); (first | (first | refine zaa ?_ | (refine zac ?_; (conv => { arg 5; simp }))))) | (refine zab rfl ?_ ?_; (focus (simp; done))))); with_reducible refine zad ?_; (first | refine ⟨rfl, ?_⟩ | refine ⟨by simp [quietB], by simp [quietU], ?_⟩ | skip)) | (refine WL.cond ?_; (conv => { arg 1; simp (disch := omega) [h0, h4, h5, hst] }); with_reducible (first | refine zaj ?_ | refine zak ?_ | refine zag (by omega) ?_ | refine zah (by omega) ?_))))
      refine ⟨[⟨0, 0, 0⟩], ?_⟩
      simp (disch := omega) [hst]
  · refine WL.loop (fun m s => ∃ (i c : Nat) (pre : List Nat), m = n - i ∧ i ≤ n ∧ s.frame 0 = .sl ⟨0, 0, 0⟩ v 0 n 1 ∧ s.frame 4 = .int .u32 c ∧ s.frame 5 = .int .i64 i ∧
      s.store ⟨0, 0, 0⟩ = some ⟨v, true, true, ws (pre ++ O.drop i)⟩ ∧ pre.length = i ∧ c < 2 ∧ pre ++ dblL (O.drop i) c = dblL O 1) n ?_ ?_
    · exact ⟨0, 1, [], by omega, by omega, by simp, by simp, by simp, by simp [stOf], rfl, by omega, by simp⟩
    rintro m ⟨f, σ, g⟩ ⟨i, c, pre, rfl, hi, h0, h4, h5, hst, hpre, hc, hT⟩
    simp only at h0 h4 h5 hst
    by_cases hi' : i < n
    · have hx := zbl hO i
      have hd := zaz (X := O) (i := i) (by omega)
      rw [hd] at hst hT
      simp only [dblL] at hT
      generalize O.getD i 0 = x at *
      have r0 : (ws (pre ++ x :: O.drop (i + 1)))[i]? = some (.int .u32 (x : Int)) := by
        rw [zbk (by simp; omega), zkp hpre]
      have s0 := zbm (X := pre ++ x :: O.drop (i + 1)) (i := i) (v := (((x * 2 + c) % 4294967296 : Nat) : Int)) (by simp; omega) rfl
      rw [zgk hpre] at s0
      have q1 : (x : Int).tdiv 2147483648 = ((x / 2147483648 : Nat) : Int) := rfl
      have q2 : ((x : Int) * 2 % 4294967296 + c) % 4294967296 = (((x * 2 + c) % 4294967296 : Nat) : Int) := by omega
      have q3 : ((x / 2147483648 : Nat) : Int) % 4294967296 = ((x / 2147483648 : Nat) : Int) := by omega
      have hc2 : x / 2147483648 < 2 := by omega
      generalize (x * 2 + c) % 4294967296 = w at *
      generalize x / 2147483648 = c2 at *
      have hlen : i < pre.length + (1 + (O.length - (i + 1))) := by omega
      simp only [List.append_assoc, List.cons_append, List.nil_append] at s0
      (repeat (first | with_reducible (first | refine WL.seq ?_ | refine WL.skip ?_ | refine WL.label ?_ | refine WL.block ?_ | refine WL.scope ?_ | refine WL.nilS ?_ | refine WL.reS ?_ | refine WL.exS ?_ | refine WL.nilB ?_ | refine WL.nilT ?_ | refine WL.exit ?_ | refine WL.ret ?_ | refine WL.exT ?_ | refine WL.exB ?_ | refine WL.exN rfl ?_ | refine WL.reT ?_ | refine WL.reB ?_) | ((first | refine WL.reg rfl ?_ | refine WL.regT zai rfl ?_); (conv => { arg 3; simp [prep, prep1] }); (repeat (first | (refine zae ?_ ?_; (focus (simp; done)); (conv => { arg 4; simp (disch := omega) [h0, h4, h5, hst, hi', r0, s0, q1, q2, q3, hlen] }); (first | (first | refine zaa ?_ | (refine zac ?_; (conv => { arg 5; simp }))))) | (refine zab rfl ?_ ?_; (focus (simp; done))))); with_reducible refine zad ?_; (first | refine ⟨rfl, ?_⟩ | refine ⟨by simp [quietB], by simp [quietU], ?_⟩ | skip)) | (refine WL.cond ?_; (conv => { arg 1; simp (disch := omega) [h0, h4, h5, hst, hi', r0, s0, q1, q2, q3, hlen] }); with_reducible (first | refine zaj ?_ | refine zak ?_ | refine zag (by omega) ?_ | refine zah (by omega) ?_))))
      exact ⟨n - (i + 1), by omega, i + 1, c2, pre ++ [w], rfl, by omega, by simp [h0], by simp, by simp, by simp, by simp [hpre], hc2, by rw [← hT]; simp⟩
    · have hia : i = n := by omega
      subst hia
      rw [List.drop_of_length_le (by omega)] at hT hst
      simp only [dblL, List.append_nil] at hT hst
      rw [hT] at hst
      (repeat (first | with_reducible (first | refine WL.seq ?_ | refine WL.skip ?_ | refine WL.label ?_ | refine WL.block ?_ | refine WL.scope ?_ | refine WL.nilS ?_ | refine WL.reS ?_ | refine WL.exS ?_ | refine WL.nilB ?_ | refine WL.nilT ?_ | refine WL.exit ?_ | refine WL.ret ?_ | refine WL.exT ?_ | refine WL.exB ?_ | refine WL.exN rfl ?_ | refine WL.reT ?_ | refine WL.reB ?_) | ((first | refine WL.reg rfl ?_ | refine WL.regT zai rfl ?_); (conv => { arg 3; simp [prep, prep1] }); (repeat (first | (refine zae ?_ ?_; (focus (simp; done)); (conv => { arg 4; simp (disch := omega) [h0, h4, h5, hst] }); (first | (first | refine zaa ?_ | (refine zac ?_; (conv => { arg 5; simp }))))) | (refine zab rfl ?_ ?_; (focus (simp; done))))); with_reducible refine zad ?_; (first | refine ⟨rfl, ?_⟩ | refine ⟨by simp [quietB], by simp [quietU], ?_⟩ | skip)) | (refine WL.cond ?_; (conv => { arg 1; simp (disch := omega) [h0, h4, h5, hst] }); with_reducible (first | refine zaj ?_ | refine zak ?_ | refine zag (by omega) ?_ | refine zah (by omega) ?_))))
      refine ⟨[⟨0, 0, 0⟩], ?_⟩
      simp (disch := omega) [hst]
theorem zli (x : Nat) (r b : List Nat) (w : Nat) : subL (x :: r) b w = (x + 4294967296 - b.headD 0 - w) % 4294967296 :: subL r b.tail (if x < b.headD 0 + w then 1 else 0) := by simp [subL]
theorem znv {P pre D : List Nat} {x i o : Nat} (h : P.length = o) (hp : pre.length = i) : (P ++ (pre ++ x :: D)).getD (o + i) 0 = x := by
  rw [zhg (by omega)]; rfl
theorem zci {P D : List Nat} {j : Nat} (h : j < P.length) : (P ++ D).getD j 0 = P.getD j 0 := by
  rw [List.getD_eq_getElem?_getD, List.getD_eq_getElem?_getD, List.getElem?_append_left h]
theorem zmr {P X S : List Nat} {o n : Nat} (h : P.length = o) (hn : X.length = n) : ((ws (P ++ (X ++ S))).drop o).take n = ws X := by
  subst h hn
  rw [zmy, zmy, List.drop_append_of_le_length (by simp [ws]), List.drop_of_length_le (by simp [ws]), List.nil_append, List.take_append_of_le_length (by simp [ws]), List.take_of_length_le (by simp [ws])]
theorem refAtO (v o n i : Nat) (P b S : List Nat) (hP : P.length = o) (hn : b.length = n) (hi : i ≤ 1099511627776000) (hl : o + n + S.length ≤ 4398046511104) :
    CallOk Tryz.prog 149 [.sl ⟨0, 0, 0⟩ v o n 1, .int .i64 i] [⟨v, true, true, ws (P ++ (b ++ S))⟩] (w32 (b.getD i 0)) [⟨v, true, true, ws (P ++ (b ++ S))⟩] := by
  by_cases h : i < n
  · have h1 : (ws (P ++ (b ++ S)))[o + i]? = some (.int .u32 ((b.getD i 0 : Nat) : Int)) := by
      rw [zbk (by simp; omega)]
      congr 3
      rw [← List.append_assoc, zci (by simp; omega), zbq (by omega)]
      congr 1; omega
    have hlen : o + i < P.length + (b.length + S.length) := by omega
    generalize b.getD i 0 = x at *
    refine CallOk.of_wl Tryz.func149 rfl rfl rfl (Nat.le_of_ble_eq_true rfl) ?_
    (repeat (first | with_reducible (first | refine WL.seq ?_ | refine WL.skip ?_ | refine WL.label ?_ | refine WL.block ?_ | refine WL.scope ?_ | refine WL.nilS ?_ | refine WL.reS ?_ | refine WL.exS ?_ | refine WL.nilB ?_ | refine WL.nilT ?_ | refine WL.exit ?_ | refine WL.ret ?_ | refine WL.exT ?_ | refine WL.exB ?_ | refine WL.exN rfl ?_ | refine WL.reT ?_ | refine WL.reB ?_) | ((first | refine WL.reg rfl ?_ | refine WL.regT zai rfl ?_); (conv => { arg 3; simp [prep, prep1] }); (repeat (first | (refine zae ?_ ?_; (focus (simp; done)); (conv => { arg 4; simp (disch := omega) [h, h1, hlen] }); (first | (first | refine zaa ?_ | (refine zac ?_; (conv => { arg 5; simp }))))) | (refine zab rfl ?_ ?_; (focus (simp; done))))); with_reducible refine zad ?_; (first | refine ⟨rfl, ?_⟩ | refine ⟨by simp [quietB], by simp [quietU], ?_⟩ | skip)) | (refine WL.cond ?_; (conv => { arg 1; simp (disch := omega) [h, h1, hlen] }); with_reducible (first | refine zaj ?_ | refine zak ?_ | refine zag (by omega) ?_ | refine zah (by omega) ?_))))
    refine ⟨[⟨0, 0, 0⟩], ?_⟩
    simp (disch := omega) [w32]
  · have h1 : b.getD i 0 = 0 := by rw [List.getD_eq_getElem?_getD, List.getElem?_eq_none (by omega)]; rfl
    rw [h1]
    refine CallOk.of_wl Tryz.func149 rfl rfl rfl (Nat.le_of_ble_eq_true rfl) ?_
    (repeat (first | with_reducible (first | refine WL.seq ?_ | refine WL.skip ?_ | refine WL.label ?_ | refine WL.block ?_ | refine WL.scope ?_ | refine WL.nilS ?_ | refine WL.reS ?_ | refine WL.exS ?_ | refine WL.nilB ?_ | refine WL.nilT ?_ | refine WL.exit ?_ | refine WL.ret ?_ | refine WL.exT ?_ | refine WL.exB ?_ | refine WL.exN rfl ?_ | refine WL.reT ?_ | refine WL.reB ?_) | ((first | refine WL.reg rfl ?_ | refine WL.regT zai rfl ?_); (conv => { arg 3; simp [prep, prep1] }); (repeat (first | (refine zae ?_ ?_; (focus (simp; done)); (conv => { arg 4; simp (disch := omega) [h] }); (first | (first | refine zaa ?_ | (refine zac ?_; (conv => { arg 5; simp }))))) | (refine zab rfl ?_ ?_; (focus (simp; done))))); with_reducible refine zad ?_; (first | refine ⟨rfl, ?_⟩ | refine ⟨by simp [quietB], by simp [quietU], ?_⟩ | skip)) | (refine WL.cond ?_; (conv => { arg 1; simp (disch := omega) [h] }); with_reducible (first | refine zaj ?_ | refine zak ?_ | refine zag (by omega) ?_ | refine zah (by omega) ?_))))
    refine ⟨[⟨0, 0, 0⟩], ?_⟩
    simp (disch := omega) [w32]
theorem refLess (v o n : Nat) (P O S b : List Nat) (hP : P.length = o) (hn : O.length = n) (hO : wf O) (hb : wf b) (hl : o + n + S.length ≤ 4398046511104) (hlb : b.length ≤ 4398046511104) :
    CallOk Tryz.prog 111 [.sl ⟨0, 0, 0⟩ v o n 1, wl b] [⟨v, true, true, ws (P ++ (O ++ S))⟩] (.tup []) [⟨v, true, true, ws (P ++ (subL O b 0 ++ S))⟩] := by
  refine CallOk.of_wl Tryz.func111 rfl rfl rfl (Nat.le_of_ble_eq_true rfl) ?_
  (repeat (first | with_reducible (first | refine WL.seq ?_ | refine WL.skip ?_ | refine WL.label ?_ | refine WL.block ?_ | refine WL.scope ?_ | refine WL.nilS ?_ | refine WL.reS ?_ | refine WL.exS ?_ | refine WL.nilB ?_ | refine WL.nilT ?_ | refine WL.exit ?_ | refine WL.ret ?_ | refine WL.exT ?_ | refine WL.exB ?_ | refine WL.exN rfl ?_ | refine WL.reT ?_ | refine WL.reB ?_) | ((first | refine WL.reg rfl ?_ | refine WL.regT zai rfl ?_); (conv => { arg 3; simp [prep, prep1] }); (repeat (first | (refine zae ?_ ?_; (focus (simp; done)); (conv => { arg 4; simp (disch := omega)  }); (first | (first | refine zaa ?_ | (refine zac ?_; (conv => { arg 5; simp }))))) | (refine zab rfl ?_ ?_; (focus (simp; done))))); with_reducible refine zad ?_; (first | refine ⟨rfl, ?_⟩ | refine ⟨by simp [quietB], by simp [quietU], ?_⟩ | skip)) | (refine WL.cond ?_; (conv => { arg 1; simp (disch := omega)  }); with_reducible (first | refine zaj ?_ | refine zak ?_ | refine zag (by omega) ?_ | refine zah (by omega) ?_))))
  refine WL.loop (fun m s => ∃ (i w : Nat) (pre : List Nat), m = n - i ∧ i ≤ n ∧ s.frame 0 = .sl ⟨0, 0, 0⟩ v o n 1 ∧ s.frame 1 = wl b ∧ s.frame 4 = .int .u64 w ∧ s.frame 5 = .int .i64 i ∧
      s.store ⟨0, 0, 0⟩ = some ⟨v, true, true, ws (P ++ (pre ++ (O.drop i ++ S)))⟩ ∧ pre.length = i ∧ w < 2 ∧ pre ++ subL (O.drop i) (b.drop i) w = subL O b 0) n ?_ ?_
  · exact ⟨0, 0, [], by omega, by omega, by simp, by simp, by simp, by simp, by simp [stOf], rfl, by omega, by simp⟩
  rintro m ⟨f, σ, g⟩ ⟨i, w, pre, rfl, hi, h0, h1, h4, h5, hst, hpre, hw, hT⟩
  simp only at h0 h1 h4 h5 hst
  by_cases hi' : i < n
  · have hx := zbl hO i
    have hy := zbl hb i
    have hd := zaz (X := O) (i := i) (by omega)
    rw [hd] at hst hT
    rw [zli, zbb, List.tail_drop] at hT
    have c1 := zmo b i (by omega)
    skip
    generalize O.getD i 0 = x at *
    generalize b.getD i 0 = y at *
    have r0 : (ws (P ++ (pre ++ x :: (O.drop (i + 1) ++ S))))[o + i]? = some (.int .u32 (x : Int)) := by
      rw [zbk (by simp; omega), znv hP hpre]
    simp only [List.cons_append] at hst
    have hlen : o + i < P.length + (pre.length + (1 + (O.length - (i + 1) + S.length))) := by omega
    have w1 : (0 : Int) ≤ (y : Int) + w ∧ (y : Int) + w ≤ 18446744073709551615 := by omega
    by_cases hxy : x < y + w
    · have hxyI : (x : Int) < (y : Int) + w := by omega
      obtain ⟨u, hvd⟩ : ∃ u : Nat, x + 4294967296 = u + (y + w) := ⟨x + 4294967296 - (y + w), by omega⟩
      have hu : (x + 4294967296 - y - w) % 4294967296 = u := by omega
      rw [hu] at hT
      rw [if_pos hxy] at hT
      have huB : u < 4294967296 := by omega
      have s0 := zbm (X := P ++ (pre ++ x :: (O.drop (i + 1) ++ S))) (i := o + i) (v := (u : Int)) (by simp; omega) rfl
      rw [zdc (by omega)] at s0
      have q1 : ((x : Int) + 4294967296) - ((y : Int) + w) = (u : Int) := by omega
      have q2 : (u : Int) % 4294967296 = u := by omega
      have w3 : (0 : Int) ≤ (u : Int) ∧ (u : Int) ≤ 18446744073709551615 := by omega
      simp only [List.append_assoc, List.cons_append, List.nil_append] at s0
      clear hu hvd
      (repeat (first | with_reducible (first | refine WL.seq ?_ | refine WL.skip ?_ | refine WL.label ?_ | refine WL.block ?_ | refine WL.scope ?_ | refine WL.nilS ?_ | refine WL.reS ?_ | refine WL.exS ?_ | refine WL.nilB ?_ | refine WL.nilT ?_ | refine WL.exit ?_ | refine WL.ret ?_ | refine WL.exT ?_ | refine WL.exB ?_ | refine WL.exN rfl ?_ | refine WL.reT ?_ | refine WL.reB ?_) | ((first | refine WL.reg rfl ?_ | refine WL.regT zai rfl ?_); (conv => { arg 3; simp [prep, prep1] }); (repeat (first | (refine zae ?_ ?_; (focus (simp; done)); (conv => { arg 4; simp (disch := omega) [h0, h1, h4, h5, hst, hi', r0, s0, w32, hxyI, q1, q2, hlen] }); (first | (first | refine zaa ?_ | (refine zac ?_; (conv => { arg 5; simp }))) | (refine zal true rfl rfl ⟨_, Tryz.func149, rfl, rfl⟩ ?_; (conv => { arg 6; simp (disch := omega) [h0, h1, h4, h5, hst, hi', r0, s0, w32, hxyI, q1, q2, hlen] }); refine zaf (c1) rfl ?_; (conv => { arg 5; simp (disch := omega) [h0, h1, h4, h5, hst, hi', r0, s0, w32, hxyI, q1, q2, hlen] })))) | (refine zab rfl ?_ ?_; (focus (simp; done))))); with_reducible refine zad ?_; (first | refine ⟨rfl, ?_⟩ | refine ⟨by simp [quietB], by simp [quietU], ?_⟩ | skip)) | (refine WL.cond ?_; (conv => { arg 1; simp (disch := omega) [h0, h1, h4, h5, hst, hi', r0, s0, w32, hxyI, q1, q2, hlen] }); with_reducible (first | refine zaj ?_ | refine zak ?_ | refine zag (by omega) ?_ | refine zah (by omega) ?_))))
      exact ⟨n - (i + 1), by omega, i + 1, 1, pre ++ [u], rfl, by omega, by simp [h0], by simp [h1], by simp, by simp, by simp, by simp [hpre], by omega, by rw [← hT]; simp⟩
    · have hxyI : ¬ (x : Int) < (y : Int) + w := by omega
      obtain ⟨u, hvd⟩ : ∃ u : Nat, x = u + (y + w) := ⟨x - (y + w), by omega⟩
      have hu : (x + 4294967296 - y - w) % 4294967296 = u := by omega
      rw [hu] at hT
      rw [if_neg hxy] at hT
      have huB : u < 4294967296 := by omega
      have s0 := zbm (X := P ++ (pre ++ x :: (O.drop (i + 1) ++ S))) (i := o + i) (v := (u : Int)) (by simp; omega) rfl
      rw [zdc (by omega)] at s0
      have q1 : (x : Int) - ((y : Int) + w) = (u : Int) := by omega
      have q2 : (u : Int) % 4294967296 = u := by omega
      have w3 : (0 : Int) ≤ (u : Int) ∧ (u : Int) ≤ 18446744073709551615 := by omega
      simp only [List.append_assoc, List.cons_append, List.nil_append] at s0
      clear hu hvd
      (repeat (first | with_reducible (first | refine WL.seq ?_ | refine WL.skip ?_ | refine WL.label ?_ | refine WL.block ?_ | refine WL.scope ?_ | refine WL.nilS ?_ | refine WL.reS ?_ | refine WL.exS ?_ | refine WL.nilB ?_ | refine WL.nilT ?_ | refine WL.exit ?_ | refine WL.ret ?_ | refine WL.exT ?_ | refine WL.exB ?_ | refine WL.exN rfl ?_ | refine WL.reT ?_ | refine WL.reB ?_) | ((first | refine WL.reg rfl ?_ | refine WL.regT zai rfl ?_); (conv => { arg 3; simp [prep, prep1] }); (repeat (first | (refine zae ?_ ?_; (focus (simp; done)); (conv => { arg 4; simp (disch := omega) [h0, h1, h4, h5, hst, hi', r0, s0, w32, hxyI, q1, q2, hlen] }); (first | (first | refine zaa ?_ | (refine zac ?_; (conv => { arg 5; simp }))) | (refine zal true rfl rfl ⟨_, Tryz.func149, rfl, rfl⟩ ?_; (conv => { arg 6; simp (disch := omega) [h0, h1, h4, h5, hst, hi', r0, s0, w32, hxyI, q1, q2, hlen] }); refine zaf (c1) rfl ?_; (conv => { arg 5; simp (disch := omega) [h0, h1, h4, h5, hst, hi', r0, s0, w32, hxyI, q1, q2, hlen] })))) | (refine zab rfl ?_ ?_; (focus (simp; done))))); with_reducible refine zad ?_; (first | refine ⟨rfl, ?_⟩ | refine ⟨by simp [quietB], by simp [quietU], ?_⟩ | skip)) | (refine WL.cond ?_; (conv => { arg 1; simp (disch := omega) [h0, h1, h4, h5, hst, hi', r0, s0, w32, hxyI, q1, q2, hlen] }); with_reducible (first | refine zaj ?_ | refine zak ?_ | refine zag (by omega) ?_ | refine zah (by omega) ?_))))
      exact ⟨n - (i + 1), by omega, i + 1, 0, pre ++ [u], rfl, by omega, by simp [h0], by simp [h1], by simp, by simp, by simp, by simp [hpre], by omega, by rw [← hT]; simp⟩
  · have hia : i = n := by omega
    subst hia
    rw [List.drop_of_length_le (by omega)] at hT hst
    simp only [subL, List.append_nil, List.nil_append] at hT hst
    rw [hT] at hst
    (repeat (first | with_reducible (first | refine WL.seq ?_ | refine WL.skip ?_ | refine WL.label ?_ | refine WL.block ?_ | refine WL.scope ?_ | refine WL.nilS ?_ | refine WL.reS ?_ | refine WL.exS ?_ | refine WL.nilB ?_ | refine WL.nilT ?_ | refine WL.exit ?_ | refine WL.ret ?_ | refine WL.exT ?_ | refine WL.exB ?_ | refine WL.exN rfl ?_ | refine WL.reT ?_ | refine WL.reB ?_) | ((first | refine WL.reg rfl ?_ | refine WL.regT zai rfl ?_); (conv => { arg 3; simp [prep, prep1] }); (repeat (first | (refine zae ?_ ?_; (focus (simp; done)); (conv => { arg 4; simp (disch := omega) [h0, h1, h4, h5, hst] }); (first | (first | refine zaa ?_ | (refine zac ?_; (conv => { arg 5; simp }))))) | (refine zab rfl ?_ ?_; (focus (simp; done))))); with_reducible refine zad ?_; (first | refine ⟨rfl, ?_⟩ | refine ⟨by simp [quietB], by simp [quietU], ?_⟩ | skip)) | (refine WL.cond ?_; (conv => { arg 1; simp (disch := omega) [h0, h1, h4, h5, hst] }); with_reducible (first | refine zaj ?_ | refine zak ?_ | refine zag (by omega) ?_ | refine zah (by omega) ?_))))
    refine ⟨[⟨0, 0, 0⟩], ?_⟩
    simp (disch := omega) [hst]
theorem znq (v v2 o o2 n nb : Nat) (P O S P2 b S2 : List Nat) (hP : P.length = o) (hn : O.length = n) (hO : wf O) (hb : wf b) (hl : o + n + S.length ≤ 4398046511104) (hP2 : P2.length = o2) (hnb : b.length = nb) (hlb : o2 + nb + S2.length ≤ 4398046511104) :
    CallOk Tryz.prog 111 [.sl ⟨0, 0, 0⟩ v o n 1, .sl ⟨0, 0, 1⟩ v2 o2 nb 1] [⟨v, true, true, ws (P ++ (O ++ S))⟩, ⟨v2, true, true, ws (P2 ++ (b ++ S2))⟩] (.tup []) [⟨v, true, true, ws (P ++ (subL O b 0 ++ S))⟩, ⟨v2, true, true, ws (P2 ++ (b ++ S2))⟩] := by
  have hcut := zmr (S := S2) hP2 hnb
  have hcl : o2 + nb ≤ P2.length + (b.length + S2.length) := by omega
  refine CallOk.of_wl Tryz.func111 rfl rfl rfl (Nat.le_of_ble_eq_true rfl) ?_
  (repeat (first | with_reducible (first | refine WL.seq ?_ | refine WL.skip ?_ | refine WL.label ?_ | refine WL.block ?_ | refine WL.scope ?_ | refine WL.nilS ?_ | refine WL.reS ?_ | refine WL.exS ?_ | refine WL.nilB ?_ | refine WL.nilT ?_ | refine WL.exit ?_ | refine WL.ret ?_ | refine WL.exT ?_ | refine WL.exB ?_ | refine WL.exN rfl ?_ | refine WL.reT ?_ | refine WL.reB ?_) | ((first | refine WL.reg rfl ?_ | refine WL.regT zai rfl ?_); (conv => { arg 3; simp [prep, prep1] }); (repeat (first | (refine zae ?_ ?_; (focus (simp; done)); (conv => { arg 4; simp (disch := omega)  }); (first | (first | refine zaa ?_ | (refine zac ?_; (conv => { arg 5; simp }))))) | (refine zab rfl ?_ ?_; (focus (simp; done))))); with_reducible refine zad ?_; (first | refine ⟨rfl, ?_⟩ | refine ⟨by simp [quietB], by simp [quietU], ?_⟩ | skip)) | (refine WL.cond ?_; (conv => { arg 1; simp (disch := omega)  }); with_reducible (first | refine zaj ?_ | refine zak ?_ | refine zag (by omega) ?_ | refine zah (by omega) ?_))))
  refine WL.loop (fun m s => ∃ (i w : Nat) (pre : List Nat), m = n - i ∧ i ≤ n ∧ s.frame 0 = .sl ⟨0, 0, 0⟩ v o n 1 ∧ s.frame 1 = .sl ⟨0, 0, 1⟩ v2 o2 nb 1 ∧ s.frame 4 = .int .u64 w ∧ s.frame 5 = .int .i64 i ∧
      s.store ⟨0, 0, 0⟩ = some ⟨v, true, true, ws (P ++ (pre ++ (O.drop i ++ S)))⟩ ∧ s.store ⟨0, 0, 1⟩ = some ⟨v2, true, true, ws (P2 ++ (b ++ S2))⟩ ∧ pre.length = i ∧ w < 2 ∧ pre ++ subL (O.drop i) (b.drop i) w = subL O b 0) n ?_ ?_
  · exact ⟨0, 0, [], by omega, by omega, by simp, by simp, by simp, by simp, by simp [stOf], by simp [stOf], rfl, by omega, by simp⟩
  rintro m ⟨f, σ, g⟩ ⟨i, w, pre, rfl, hi, h0, h1, h4, h5, hst, hst2, hpre, hw, hT⟩
  simp only at h0 h1 h4 h5 hst hst2
  by_cases hi' : i < n
  · have hx := zbl hO i
    have hy := zbl hb i
    have hd := zaz (X := O) (i := i) (by omega)
    rw [hd] at hst hT
    rw [zli, zbb, List.tail_drop] at hT
    have c1 := refAtO v2 o2 nb i P2 b S2 hP2 hnb (by omega) (by omega)
    skip
    generalize O.getD i 0 = x at *
    generalize b.getD i 0 = y at *
    have r0 : (ws (P ++ (pre ++ x :: (O.drop (i + 1) ++ S))))[o + i]? = some (.int .u32 (x : Int)) := by
      rw [zbk (by simp; omega), znv hP hpre]
    simp only [List.cons_append] at hst
    have hlen : o + i < P.length + (pre.length + (1 + (O.length - (i + 1) + S.length))) := by omega
    have w1 : (0 : Int) ≤ (y : Int) + w ∧ (y : Int) + w ≤ 18446744073709551615 := by omega
    by_cases hxy : x < y + w
    · have hxyI : (x : Int) < (y : Int) + w := by omega
      obtain ⟨u, hvd⟩ : ∃ u : Nat, x + 4294967296 = u + (y + w) := ⟨x + 4294967296 - (y + w), by omega⟩
      have hu : (x + 4294967296 - y - w) % 4294967296 = u := by omega
      rw [hu] at hT
      rw [if_pos hxy] at hT
      have huB : u < 4294967296 := by omega
      have s0 := zbm (X := P ++ (pre ++ x :: (O.drop (i + 1) ++ S))) (i := o + i) (v := (u : Int)) (by simp; omega) rfl
      rw [zdc (by omega)] at s0
      have q1 : ((x : Int) + 4294967296) - ((y : Int) + w) = (u : Int) := by omega
      have q2 : (u : Int) % 4294967296 = u := by omega
      have w3 : (0 : Int) ≤ (u : Int) ∧ (u : Int) ≤ 18446744073709551615 := by omega
      simp only [List.append_assoc, List.cons_append, List.nil_append] at s0
      clear hu hvd
      (repeat (first | with_reducible (first | refine WL.seq ?_ | refine WL.skip ?_ | refine WL.label ?_ | refine WL.block ?_ | refine WL.scope ?_ | refine WL.nilS ?_ | refine WL.reS ?_ | refine WL.exS ?_ | refine WL.nilB ?_ | refine WL.nilT ?_ | refine WL.exit ?_ | refine WL.ret ?_ | refine WL.exT ?_ | refine WL.exB ?_ | refine WL.exN rfl ?_ | refine WL.reT ?_ | refine WL.reB ?_) | ((first | refine WL.reg rfl ?_ | refine WL.regT zai rfl ?_); (conv => { arg 3; simp [prep, prep1] }); (repeat (first | (refine zae ?_ ?_; (focus (simp; done)); (conv => { arg 4; simp (disch := omega) [h0, h1, h4, h5, hst, hi', r0, s0, w32, hxyI, q1, q2, hlen, hst2, hcut, hcl] }); (first | (first | refine zaa ?_ | (refine zac ?_; (conv => { arg 5; simp }))))) | (refine zab rfl ?_ ?_; (focus (simp; done))))); with_reducible refine zad ?_; (first | refine ⟨rfl, ?_⟩ | refine ⟨by simp [quietB], by simp [quietU], ?_⟩ | skip)) | (refine WL.cond ?_; (conv => { arg 1; simp (disch := omega) [h0, h1, h4, h5, hst, hi', r0, s0, w32, hxyI, q1, q2, hlen, hst2, hcut, hcl] }); with_reducible (first | refine zaj ?_ | refine zak ?_ | refine zag (by omega) ?_ | refine zah (by omega) ?_))))
      (first | refine WL.reg rfl ?_ | refine WL.regT zai rfl ?_); (conv => { arg 3; simp [prep, prep1] }); (repeat (first | (refine zae ?_ ?_; (focus (simp; done)); (conv => { arg 4; simp (disch := omega) [h0, h1, h4, h5, hst, hi', r0, s0, w32, hxyI, q1, q2, hlen, hst2, hcut, hcl] }); (first | (first | refine zaa ?_ | (refine zac ?_; (conv => { arg 5; simp }))))) | (refine zab rfl ?_ ?_; (focus (simp; done)))))
      refine zbu [⟨0, 0, 1⟩] [] [] true c1 ⟨_, Tryz.func149, rfl, rfl⟩ rfl rfl rfl (by simp (disch := omega) [h0, h1, h4, h5, hst, hi', r0, s0, w32, hxyI, q1, q2, hlen, hst2, hcut, hcl, idx]) (by simp (disch := omega) [h0, h1, h4, h5, hst, hi', r0, s0, w32, hxyI, q1, q2, hlen, hst2, hcut, hcl, idx]) (by simp) (by simp) ?_; (conv => { arg 5; simp (disch := omega) [idx] })
      (repeat (first | (refine zae ?_ ?_; (focus (simp; done)); (conv => { arg 4; simp (disch := omega) [h0, h1, h4, h5, hst, hi', r0, s0, w32, hxyI, q1, q2, hlen, hst2, hcut, hcl] }); (first | refine zaa ?_ | (refine zac ?_; (conv => { arg 5; simp })))) | (refine zab rfl ?_ ?_; (focus (simp; done))))); with_reducible refine zad ?_
      (repeat (first | with_reducible (first | refine WL.seq ?_ | refine WL.skip ?_ | refine WL.label ?_ | refine WL.block ?_ | refine WL.scope ?_ | refine WL.nilS ?_ | refine WL.reS ?_ | refine WL.exS ?_ | refine WL.nilB ?_ | refine WL.nilT ?_ | refine WL.exit ?_ | refine WL.ret ?_ | refine WL.exT ?_ | refine WL.exB ?_ | refine WL.exN rfl ?_ | refine WL.reT ?_ | refine WL.reB ?_) | ((first | refine WL.reg rfl ?_ | refine WL.regT zai rfl ?_); (conv => { arg 3; simp [prep, prep1] }); (repeat (first | (refine zae ?_ ?_; (focus (simp; done)); (conv => { arg 4; simp (disch := omega) [h0, h1, h4, h5, hst, hi', r0, s0, w32, hxyI, q1, q2, hlen, hst2, hcut, hcl] }); (first | (first | refine zaa ?_ | (refine zac ?_; (conv => { arg 5; simp }))))) | (refine zab rfl ?_ ?_; (focus (simp; done))))); with_reducible refine zad ?_; (first | refine ⟨rfl, ?_⟩ | refine ⟨by simp [quietB], by simp [quietU], ?_⟩ | skip)) | (refine WL.cond ?_; (conv => { arg 1; simp (disch := omega) [h0, h1, h4, h5, hst, hi', r0, s0, w32, hxyI, q1, q2, hlen, hst2, hcut, hcl] }); with_reducible (first | refine zaj ?_ | refine zak ?_ | refine zag (by omega) ?_ | refine zah (by omega) ?_))))
      exact ⟨n - (i + 1), by omega, i + 1, 1, pre ++ [u], rfl, by omega, by simp [h0], by simp [h1], by simp, by simp, by simp, by simp [hst2], by simp [hpre], by omega, by rw [← hT]; simp⟩
    · have hxyI : ¬ (x : Int) < (y : Int) + w := by omega
      obtain ⟨u, hvd⟩ : ∃ u : Nat, x = u + (y + w) := ⟨x - (y + w), by omega⟩
      have hu : (x + 4294967296 - y - w) % 4294967296 = u := by omega
      rw [hu] at hT
      rw [if_neg hxy] at hT
      have huB : u < 4294967296 := by omega
      have s0 := zbm (X := P ++ (pre ++ x :: (O.drop (i + 1) ++ S))) (i := o + i) (v := (u : Int)) (by simp; omega) rfl
      rw [zdc (by omega)] at s0
      have q1 : (x : Int) - ((y : Int) + w) = (u : Int) := by omega
      have q2 : (u : Int) % 4294967296 = u := by omega
      have w3 : (0 : Int) ≤ (u : Int) ∧ (u : Int) ≤ 18446744073709551615 := by omega
      simp only [List.append_assoc, List.cons_append, List.nil_append] at s0
      clear hu hvd
      (repeat (first | with_reducible (first | refine WL.seq ?_ | refine WL.skip ?_ | refine WL.label ?_ | refine WL.block ?_ | refine WL.scope ?_ | refine WL.nilS ?_ | refine WL.reS ?_ | refine WL.exS ?_ | refine WL.nilB ?_ | refine WL.nilT ?_ | refine WL.exit ?_ | refine WL.ret ?_ | refine WL.exT ?_ | refine WL.exB ?_ | refine WL.exN rfl ?_ | refine WL.reT ?_ | refine WL.reB ?_) | ((first | refine WL.reg rfl ?_ | refine WL.regT zai rfl ?_); (conv => { arg 3; simp [prep, prep1] }); (repeat (first | (refine zae ?_ ?_; (focus (simp; done)); (conv => { arg 4; simp (disch := omega) [h0, h1, h4, h5, hst, hi', r0, s0, w32, hxyI, q1, q2, hlen, hst2, hcut, hcl] }); (first | (first | refine zaa ?_ | (refine zac ?_; (conv => { arg 5; simp }))))) | (refine zab rfl ?_ ?_; (focus (simp; done))))); with_reducible refine zad ?_; (first | refine ⟨rfl, ?_⟩ | refine ⟨by simp [quietB], by simp [quietU], ?_⟩ | skip)) | (refine WL.cond ?_; (conv => { arg 1; simp (disch := omega) [h0, h1, h4, h5, hst, hi', r0, s0, w32, hxyI, q1, q2, hlen, hst2, hcut, hcl] }); with_reducible (first | refine zaj ?_ | refine zak ?_ | refine zag (by omega) ?_ | refine zah (by omega) ?_))))
      (first | refine WL.reg rfl ?_ | refine WL.regT zai rfl ?_); (conv => { arg 3; simp [prep, prep1] }); (repeat (first | (refine zae ?_ ?_; (focus (simp; done)); (conv => { arg 4; simp (disch := omega) [h0, h1, h4, h5, hst, hi', r0, s0, w32, hxyI, q1, q2, hlen, hst2, hcut, hcl] }); (first | (first | refine zaa ?_ | (refine zac ?_; (conv => { arg 5; simp }))))) | (refine zab rfl ?_ ?_; (focus (simp; done)))))
      refine zbu [⟨0, 0, 1⟩] [] [] true c1 ⟨_, Tryz.func149, rfl, rfl⟩ rfl rfl rfl (by simp (disch := omega) [h0, h1, h4, h5, hst, hi', r0, s0, w32, hxyI, q1, q2, hlen, hst2, hcut, hcl, idx]) (by simp (disch := omega) [h0, h1, h4, h5, hst, hi', r0, s0, w32, hxyI, q1, q2, hlen, hst2, hcut, hcl, idx]) (by simp) (by simp) ?_; (conv => { arg 5; simp (disch := omega) [idx] })
      (repeat (first | (refine zae ?_ ?_; (focus (simp; done)); (conv => { arg 4; simp (disch := omega) [h0, h1, h4, h5, hst, hi', r0, s0, w32, hxyI, q1, q2, hlen, hst2, hcut, hcl] }); (first | refine zaa ?_ | (refine zac ?_; (conv => { arg 5; simp })))) | (refine zab rfl ?_ ?_; (focus (simp; done))))); with_reducible refine zad ?_
      (repeat (first | with_reducible (first | refine WL.seq ?_ | refine WL.skip ?_ | refine WL.label ?_ | refine WL.block ?_ | refine WL.scope ?_ | refine WL.nilS ?_ | refine WL.reS ?_ | refine WL.exS ?_ | refine WL.nilB ?_ | refine WL.nilT ?_ | refine WL.exit ?_ | refine WL.ret ?_ | refine WL.exT ?_ | refine WL.exB ?_ | refine WL.exN rfl ?_ | refine WL.reT ?_ | refine WL.reB ?_) | ((first | refine WL.reg rfl ?_ | refine WL.regT zai rfl ?_); (conv => { arg 3; simp [prep, prep1] }); (repeat (first | (refine zae ?_ ?_; (focus (simp; done)); (conv => { arg 4; simp (disch := omega) [h0, h1, h4, h5, hst, hi', r0, s0, w32, hxyI, q1, q2, hlen, hst2, hcut, hcl] }); (first | (first | refine zaa ?_ | (refine zac ?_; (conv => { arg 5; simp }))))) | (refine zab rfl ?_ ?_; (focus (simp; done))))); with_reducible refine zad ?_; (first | refine ⟨rfl, ?_⟩ | refine ⟨by simp [quietB], by simp [quietU], ?_⟩ | skip)) | (refine WL.cond ?_; (conv => { arg 1; simp (disch := omega) [h0, h1, h4, h5, hst, hi', r0, s0, w32, hxyI, q1, q2, hlen, hst2, hcut, hcl] }); with_reducible (first | refine zaj ?_ | refine zak ?_ | refine zag (by omega) ?_ | refine zah (by omega) ?_))))
      exact ⟨n - (i + 1), by omega, i + 1, 0, pre ++ [u], rfl, by omega, by simp [h0], by simp [h1], by simp, by simp, by simp, by simp [hst2], by simp [hpre], by omega, by rw [← hT]; simp⟩
  · have hia : i = n := by omega
    subst hia
    rw [List.drop_of_length_le (by omega)] at hT hst
    simp only [subL, List.append_nil, List.nil_append] at hT hst
    rw [hT] at hst
    (repeat (first | with_reducible (first | refine WL.seq ?_ | refine WL.skip ?_ | refine WL.label ?_ | refine WL.block ?_ | refine WL.scope ?_ | refine WL.nilS ?_ | refine WL.reS ?_ | refine WL.exS ?_ | refine WL.nilB ?_ | refine WL.nilT ?_ | refine WL.exit ?_ | refine WL.ret ?_ | refine WL.exT ?_ | refine WL.exB ?_ | refine WL.exN rfl ?_ | refine WL.reT ?_ | refine WL.reB ?_) | ((first | refine WL.reg rfl ?_ | refine WL.regT zai rfl ?_); (conv => { arg 3; simp [prep, prep1] }); (repeat (first | (refine zae ?_ ?_; (focus (simp; done)); (conv => { arg 4; simp (disch := omega) [h0, h1, h4, h5, hst, hst2] }); (first | (first | refine zaa ?_ | (refine zac ?_; (conv => { arg 5; simp }))))) | (refine zab rfl ?_ ?_; (focus (simp; done))))); with_reducible refine zad ?_; (first | refine ⟨rfl, ?_⟩ | refine ⟨by simp [quietB], by simp [quietU], ?_⟩ | skip)) | (refine WL.cond ?_; (conv => { arg 1; simp (disch := omega) [h0, h1, h4, h5, hst, hst2] }); with_reducible (first | refine zaj ?_ | refine zak ?_ | refine zag (by omega) ?_ | refine zah (by omega) ?_))))
    refine ⟨[⟨0, 0, 0⟩, ⟨0, 0, 1⟩], ?_⟩
    simp (disch := omega) [hst, hst2]
    intro j hj
    rcases j with _ | _ | j
    · rfl
    · rfl
    · omega
theorem zka {O b : List Nat} (hO : wf O) (hb : wf b) (hle : b.length ≤ O.length) (hv : val b ≤ val O) : val (subL O b 0) = val O - val b := zoy hO hb hle hv
theorem even_word {Q : List Nat} (hQ : wf Q) (h : val Q % 2 = 0) : Q.getD 0 0 + 1 < 4294967296 := by
  have := zoq hQ 0
  rw [Nat.pow_zero, Nat.div_one] at this
  omega
set_option maxHeartbeats 1000000 in
theorem refDiv (a b : List Nat) (ha : wf a) (hb : wf b) (hla : a.length ≤ 274877906944) (hlb : b.length ≤ 274877906944) (h0 : 0 < val b) :
    CallOk Tryz.prog 113 [wl a, wl b] [] (.tup [wl (nw (val a / val b)), wl (nw (val a % val b))]) [] := by
  have cL := refLen a ha hla
  have hlt := zia (val a)
  have hlenb : bitL (val a) ≤ 32 * a.length := by
    have := zax ha; rw [zom] at this; exact zky this
  have hT : ((b.length : Int) + 1).toNat = b.length + 1 := by omega
  have hrep1 : List.replicate a.length (PV.int IntKind.u32 0) = ws (List.replicate a.length 0) := by simp [ws]
  have hrep2 : List.replicate (b.length + 1) (PV.int IntKind.u32 0) = ws (List.replicate (b.length + 1) 0) := by simp [ws]
  have hbl := zax hb
  have hal := zax ha
  generalize hL : bitL (val a) = L at *
  refine CallOk.of_wl Tryz.func113 rfl rfl rfl (Nat.le_of_ble_eq_true rfl) ?_
  (repeat (first | with_reducible (first | refine WL.seq ?_ | refine WL.skip ?_ | refine WL.label ?_ | refine WL.block ?_ | refine WL.scope ?_ | refine WL.nilS ?_ | refine WL.reS ?_ | refine WL.exS ?_ | refine WL.nilB ?_ | refine WL.nilT ?_ | refine WL.exit ?_ | refine WL.ret ?_ | refine WL.exT ?_ | refine WL.exB ?_ | refine WL.exN rfl ?_ | refine WL.reT ?_ | refine WL.reB ?_) | ((first | refine WL.reg rfl ?_ | refine WL.regT zai rfl ?_); (conv => { arg 3; simp [prep, prep1] }); (repeat (first | (refine zae ?_ ?_; (focus (simp; done)); (conv => { arg 4; simp (disch := omega) [wl, hT, hrep1, hrep2] }); (first | (first | refine zaa ?_ | (refine zac ?_; (conv => { arg 5; simp }))) | (refine zal true rfl rfl ⟨_, Tryz.func153, rfl, rfl⟩ ?_; (conv => { arg 6; simp (disch := omega) [wl, hT, hrep1, hrep2] }); refine zaf (cL) rfl ?_; (conv => { arg 5; simp (disch := omega) [wl, hT, hrep1, hrep2] })))) | (refine zab rfl ?_ ?_; (focus (simp; done))))); with_reducible refine zad ?_; (first | refine ⟨rfl, ?_⟩ | refine ⟨by simp [quietB], by simp [quietU], ?_⟩ | skip)) | (refine WL.cond ?_; (conv => { arg 1; simp (disch := omega) [wl, hT, hrep1, hrep2] }); with_reducible (first | refine zaj ?_ | refine zak ?_ | refine zag (by omega) ?_ | refine zah (by omega) ?_))))
  refine WL.loop (fun m s => ∃ Q R : List Nat, m ≤ L ∧ s.frame 0 = wl a ∧ s.frame 1 = wl b ∧ s.frame 6 = .sl ⟨11, 0, 0⟩ 0 0 a.length 1 ∧ s.frame 7 = .sl ⟨15, 0, 0⟩ 0 0 (b.length + 1) 1 ∧ s.frame 8 = .int .i64 ((m : Int) - 1) ∧
      s.store ⟨11, 0, 0⟩ = some ⟨0, true, true, ws Q⟩ ∧ s.store ⟨15, 0, 0⟩ = some ⟨0, true, true, ws R⟩ ∧ Q.length = a.length ∧ R.length = b.length + 1 ∧ wf Q ∧ wf R ∧ val Q = val a / 2 ^ m / val b ∧ val R = val a / 2 ^ m % val b) L ?_ ?_
  · refine ⟨List.replicate a.length 0, List.replicate (b.length + 1) 0, by omega, by simp [wl], by simp [wl], by simp, by simp, by simp, by simp, by simp, by simp, by simp, zck _, zck _, ?_, ?_⟩
    · rw [zce, Nat.div_eq_of_lt hlt]; simp
    · rw [zce, Nat.div_eq_of_lt hlt]; simp
  clear hlt
  rintro m ⟨f, σ, g⟩ ⟨Q, R, hm, h0', h1, h6, h7, h8, hsQ, hsR, lQ, lR, wQ, wR, vQ, vR⟩
  simp only at h0' h1 h6 h7 h8 hsQ hsR
  cases m with
  | zero =>
    rw [Nat.pow_zero, Nat.div_one] at vQ vR
    have c1 := zdp Q wQ (by omega)
    have c2 := zdp R wR (by omega)
    rw [vQ, zmg, lQ] at c1
    rw [vR, zmg, lR] at c2
    have hall1 : (ws Q).take a.length = ws Q := by rw [← lQ, zbc]
    have hall2 : (ws R).take (b.length + 1) = ws R := by rw [← lR, zbc]
    have h8' : f 8 = .int .i64 (-1) := by simpa using h8
    have hlQ : a.length ≤ Q.length := by omega
    have hlR : b.length + 1 ≤ R.length := by omega
    (repeat (first | with_reducible (first | refine WL.seq ?_ | refine WL.skip ?_ | refine WL.label ?_ | refine WL.block ?_ | refine WL.scope ?_ | refine WL.nilS ?_ | refine WL.reS ?_ | refine WL.exS ?_ | refine WL.nilB ?_ | refine WL.nilT ?_ | refine WL.exit ?_ | refine WL.ret ?_ | refine WL.exT ?_ | refine WL.exB ?_ | refine WL.exN rfl ?_ | refine WL.reT ?_ | refine WL.reB ?_) | ((first | refine WL.reg rfl ?_ | refine WL.regT zai rfl ?_); (conv => { arg 3; simp [prep, prep1] }); (repeat (first | (refine zae ?_ ?_; (focus (simp; done)); (conv => { arg 4; simp (disch := omega) [h8', h6, h7, hsQ, hsR, lQ, lR, hall1, hall2, hlQ, hlR, List.filterMap_cons, List.filterMap_nil] }); (first | (first | refine zaa ?_ | (refine zac ?_; (conv => { arg 5; simp }))) | (refine zal true rfl rfl ⟨_, Tryz.func68, rfl, rfl⟩ ?_; (conv => { arg 6; simp (disch := omega) [h8', h6, h7, hsQ, hsR, lQ, lR, hall1, hall2, hlQ, hlR, List.filterMap_cons, List.filterMap_nil] }); (first | refine zaf (c1) rfl ?_ | refine zaf (c2) rfl ?_); (conv => { arg 5; simp (disch := omega) [h8', h6, h7, hsQ, hsR, lQ, lR, hall1, hall2, hlQ, hlR, List.filterMap_cons, List.filterMap_nil] })))) | (refine zab rfl ?_ ?_; (focus (simp; done))))); with_reducible refine zad ?_; (first | refine ⟨rfl, ?_⟩ | refine ⟨by simp [quietB], by simp [quietU], ?_⟩ | skip)) | (refine WL.cond ?_; (conv => { arg 1; simp (disch := omega) [h8', h6, h7, hsQ, hsR, lQ, lR, hall1, hall2, hlQ, hlR, List.filterMap_cons, List.filterMap_nil] }); with_reducible (first | refine zaj ?_ | refine zak ?_ | refine zag (by omega) ?_ | refine zah (by omega) ?_))))
    refine ⟨[], ?_⟩
    simp (disch := omega) 
  | succ m =>
    have h8' : f 8 = .int .i64 (m : Int) := by rw [h8]; congr 1; omega
    have hm0 : 0 ≤ (m : Int) := by omega
    have hdb := div_bit (A := val a) h0 m
    simp only at hdb
    rw [← vR, ← vQ] at hdb
    have hRlt : val R < val b := by rw [vR]; exact Nat.mod_lt _ h0
    have hbit := zri ha m
    have hmj : m / 32 < a.length := by omega
    have hA := zbk hmj
    have hx := zbl ha (m / 32)
    have hb2 : val a / 2 ^ m % 2 < 2 := Nat.mod_lt _ (by decide)
    rw [← hbit] at hdb hb2
    clear hbit vQ vR
    have hQle : ∀ t, val a / 2 ^ m / val b = t → t ≤ val a := fun t ht => by
      rw [← ht]; exact Nat.le_trans (Nat.div_le_self _ _) (Nat.div_le_self _ _)
    generalize a.getD (m / 32) 0 = x at *
    have e1 : (m : Int).tdiv 32 = ((m / 32 : Nat) : Int) := rfl
    have e2 : (m : Int).tmod 32 = ((m % 32 : Nat) : Int) := rfl
    have hr : m % 32 < 32 := Nat.mod_lt _ (by decide)
    have hmn : min (m % 32) 32 = m % 32 := by omega
    have hp32 : 2 ^ (m % 32) < 4294967296 := Nat.lt_of_lt_of_le (Nat.pow_lt_pow_right (by decide) hr) (by decide)
    have hpp : 0 < 2 ^ (m % 32) := Nat.pow_pos (by decide)
    generalize m / 32 = j at *
    generalize hr0 : m % 32 = r at *
    have e3 : (2 : Int) ^ r = ((2 ^ r : Nat) : Int) := by simp
    have e4 : ((2 ^ r : Nat) : Int) % 4294967296 = ((2 ^ r : Nat) : Int) := by
      generalize 2 ^ r = P at *
      omega
    have e5 : (x : Int).tdiv ((2 ^ r : Nat) : Int) = ((x / 2 ^ r : Nat) : Int) := rfl
    have e6 : ((x / 2 ^ r : Nat) : Int).tmod 2 = ((x / 2 ^ r % 2 : Nat) : Int) := rfl
    have e7 : ((x / 2 ^ r : Nat) : Int) % 4294967296 = ((x / 2 ^ r : Nat) : Int) := by
      have : x / 2 ^ r ≤ x := Nat.div_le_self _ _
      generalize x / 2 ^ r = P at *
      omega
    have e8 : ((x / 2 ^ r % 2 : Nat) : Int) % 4294967296 = ((x / 2 ^ r % 2 : Nat) : Int) := by
      generalize x / 2 ^ r % 2 = P at *
      omega
    have hne : ¬ ((2 ^ r : Nat) : Int) = 0 := by
      generalize 2 ^ r = P at *
      omega
    have hnn : ¬ (r : Int) < 0 := by omega
    have hjI : (j : Int) < a.length := by omega
    have hQ2 : 2 * val Q + 0 < 4294967296 ^ Q.length := by
      rw [lQ]
      rcases Nat.lt_or_ge (2 * val R + x / 2 ^ r % 2) (val b) with h | h
      · have := hQle _ (hdb.1 h).2; generalize 4294967296 ^ a.length = PP at *; omega
      · have := hQle _ (hdb.2 h).2; generalize 4294967296 ^ a.length = PP at *; omega
    have vQ2 := zjs Q 0 wQ (by omega) hQ2
    have lQ2 := zkw Q 0
    have wQ2 := zmh Q 0
    clear hal hQ2 hQle
    have cD2 := zlp 0 Q a.length false lQ wQ (by omega)
    have hbB : 2 * val R + x / 2 ^ r % 2 < 4294967296 ^ (b.length + 1) := by
      rw [Nat.pow_succ]
      generalize 4294967296 ^ b.length = P at *
      generalize x / 2 ^ r % 2 = bt at *
      omega
    have cD1 := zlp 0 R (b.length + 1) (decide (x / 2 ^ r % 2 = 1)) lR wR (by omega)
    have hbe : (if decide (x / 2 ^ r % 2 = 1) = true then 1 else 0) = x / 2 ^ r % 2 := by
      generalize x / 2 ^ r % 2 = bt at *
      by_cases h : bt = 1
      · simp [h]
      · simp [h]; omega
    rw [hbe] at cD1
    have hbd : decide (((x / 2 ^ r % 2 : Nat) : Int) = 1) = decide (x / 2 ^ r % 2 = 1) := decide_eq_decide.2 (by generalize x / 2 ^ r % 2 = bt at *; omega)
    rw [← hbd] at cD1
    have vR2 := zjs R (x / 2 ^ r % 2) wR hb2 (by rw [lR]; exact hbB)
    have lR2 := zkw R (x / 2 ^ r % 2)
    have wR2 := zmh R (x / 2 ^ r % 2)
    generalize dblL R (x / 2 ^ r % 2) = R2 at *
    generalize x / 2 ^ r % 2 = bt at *
    clear hbe hbd hbB hpp
    generalize x / 2 ^ r = y at *
    generalize 2 ^ r = P at *
    clear hp32
    have cD2 : CallOk _ _ _ [⟨0, true, true, ws Q⟩] _ [⟨0, true, true, ws (dblL Q 0)⟩] := cD2
    generalize dblL Q 0 = Q2 at *
    rw [lQ] at lQ2
    rw [lR] at lR2
    rw [← vR2] at hdb
    simp only [Nat.add_zero] at vQ2
    rw [← vQ2] at hdb
    have cC := zps R2 b wR2 hb (by omega) (by omega)
    rw [zmg, lR2] at cC
    have hallR : (ws R2).take (b.length + 1) = ws R2 := by rw [← lR2, zbc]
    have hlR : b.length + 1 ≤ R2.length := by omega
    (repeat (first | with_reducible (first | refine WL.seq ?_ | refine WL.skip ?_ | refine WL.label ?_ | refine WL.block ?_ | refine WL.scope ?_ | refine WL.nilS ?_ | refine WL.reS ?_ | refine WL.exS ?_ | refine WL.nilB ?_ | refine WL.nilT ?_ | refine WL.exit ?_ | refine WL.ret ?_ | refine WL.exT ?_ | refine WL.exB ?_ | refine WL.exN rfl ?_ | refine WL.reT ?_ | refine WL.reB ?_) | ((first | refine WL.reg rfl ?_ | refine WL.regT zai rfl ?_); (conv => { arg 3; simp [prep, prep1] }); (repeat (first | (refine zae ?_ ?_; (focus (simp; done)); (conv => { arg 4; simp (disch := omega) [h8', hm0] }); (first | (first | refine zaa ?_ | (refine zac ?_; (conv => { arg 5; simp }))))) | (refine zab rfl ?_ ?_; (focus (simp; done))))); with_reducible refine zad ?_; (first | refine ⟨rfl, ?_⟩ | refine ⟨by simp [quietB], by simp [quietU], ?_⟩ | skip)) | (refine WL.cond ?_; (conv => { arg 1; simp (disch := omega) [h8', hm0] }); with_reducible (first | refine zaj ?_ | refine zak ?_ | refine zag (by omega) ?_ | refine zah (by omega) ?_))))
    (first | refine WL.reg rfl ?_ | refine WL.regT zai rfl ?_); (conv => { arg 3; simp [prep, prep1] }); (repeat (first | (refine zae ?_ ?_; (focus (simp; done)); (conv => { arg 4; simp (disch := omega) [h0', h1, h6, h7, h8', hsQ, hsR, e1, e2, e3, e4, e5, e6, e7, e8, hne, hnn, hjI, hmj, hA, hmn, lQ, lR, wl] }); (first | (first | refine zaa ?_ | (refine zac ?_; (conv => { arg 5; simp }))))) | (refine zab rfl ?_ ?_; (focus (simp; done)))))
    refine zbu [⟨15, 0, 0⟩] [] [] true cD1 ⟨_, Tryz.func157, rfl, rfl⟩ rfl rfl rfl (by simp (disch := omega) [h7, hsR, idx]) (by simp (disch := omega) [hsR, idx]) (by simp) (by simp) ?_; (conv => { arg 5; simp (disch := omega) [idx] })
    (repeat (first | (refine zae ?_ ?_; (focus (simp; done)); (conv => { arg 4; simp (disch := omega)  }); (first | refine zaa ?_ | (refine zac ?_; (conv => { arg 5; simp })))) | (refine zab rfl ?_ ?_; (focus (simp; done))))); with_reducible refine zad ?_
    (first | refine ⟨rfl, ?_⟩ | refine ⟨by simp [quietB], by simp [quietU], ?_⟩ | skip)
    (repeat (first | with_reducible (first | refine WL.seq ?_ | refine WL.skip ?_ | refine WL.label ?_ | refine WL.block ?_ | refine WL.scope ?_ | refine WL.nilS ?_ | refine WL.reS ?_ | refine WL.exS ?_ | refine WL.nilB ?_ | refine WL.nilT ?_ | refine WL.exit ?_ | refine WL.ret ?_ | refine WL.exT ?_ | refine WL.exB ?_ | refine WL.exN rfl ?_ | refine WL.reT ?_ | refine WL.reB ?_) | ((first | refine WL.reg rfl ?_ | refine WL.regT zai rfl ?_); (conv => { arg 3; simp [prep, prep1] }); (repeat (first | (refine zae ?_ ?_; (focus (simp; done)); (conv => { arg 4; simp (disch := omega)  }); (first | (first | refine zaa ?_ | (refine zac ?_; (conv => { arg 5; simp }))))) | (refine zab rfl ?_ ?_; (focus (simp; done))))); with_reducible refine zad ?_; (first | refine ⟨rfl, ?_⟩ | refine ⟨by simp [quietB], by simp [quietU], ?_⟩ | skip)) | (refine WL.cond ?_; (conv => { arg 1; simp (disch := omega)  }); with_reducible (first | refine zaj ?_ | refine zak ?_ | refine zag (by omega) ?_ | refine zah (by omega) ?_))))
    (first | refine WL.reg rfl ?_ | refine WL.regT zai rfl ?_); (conv => { arg 3; simp [prep, prep1] }); (repeat (first | (refine zae ?_ ?_; (focus (simp; done)); (conv => { arg 4; simp (disch := omega) [h6] }); (first | (first | refine zaa ?_ | (refine zac ?_; (conv => { arg 5; simp }))))) | (refine zab rfl ?_ ?_; (focus (simp; done)))))
    refine zbu [⟨11, 0, 0⟩] [] [] true cD2 ⟨_, Tryz.func157, rfl, rfl⟩ rfl rfl rfl (by simp (disch := omega) [h6, hsQ, idx]) (by simp (disch := omega) [hsQ, idx]) (by simp) (by simp) ?_; (conv => { arg 5; simp (disch := omega) [idx] })
    (repeat (first | (refine zae ?_ ?_; (focus (simp; done)); (conv => { arg 4; simp (disch := omega)  }); (first | refine zaa ?_ | (refine zac ?_; (conv => { arg 5; simp })))) | (refine zab rfl ?_ ?_; (focus (simp; done))))); with_reducible refine zad ?_
    have hm1 : m ≤ L := by omega
    by_cases hge : val b ≤ val R2
    · obtain ⟨k1, k2⟩ := hdb.2 hge
      have hz : 0 ≤ cmpI (val R2) (val b) := by unfold cmpI; split <;> (try split) <;> omega
      generalize cmpI (val R2) (val b) = z at *
      have cS := refLess 0 0 (b.length + 1) [] R2 [] b rfl lR2 wR2 hb (by simp; omega) (by omega)
      simp only [List.nil_append, List.append_nil] at cS
      have vS := zka wR2 hb (by omega) hge
      have lS := zew R2 b 0
      have wS := zge R2 b 0
      generalize subL R2 b 0 = R3 at *
      have hev := even_word wQ2 (by omega)
      obtain ⟨u, hu⟩ : ∃ u, u = Q2.getD 0 0 + 1 := ⟨_, rfl⟩
      have hset := zgf u (X := Q2) (i := 0) (by omega)
      rw [Nat.pow_zero] at hset
      have hr0 := zbk (X := Q2) (i := 0) (by omega)
      have s0 := zbm (X := Q2) (i := 0) (v := (u : Int)) (by omega) rfl
      rw [← hu] at hev
      have hwf := ziq wQ2 0 hev
      have hl0 : 0 < Q2.length := by omega
      have ha0 : 0 < a.length := by omega
      generalize Q2.getD 0 0 = w at *
      have q1 : ((w : Int) + 1) % 4294967296 = (u : Int) := by omega
      have hlset : (Q2.set 0 u).length = a.length := by rw [List.length_set, lQ2]
      simp only [List.take_zero, List.nil_append, Nat.zero_add, List.drop_one] at s0
      (repeat (first | with_reducible (first | refine WL.seq ?_ | refine WL.skip ?_ | refine WL.label ?_ | refine WL.block ?_ | refine WL.scope ?_ | refine WL.nilS ?_ | refine WL.reS ?_ | refine WL.exS ?_ | refine WL.nilB ?_ | refine WL.nilT ?_ | refine WL.exit ?_ | refine WL.ret ?_ | refine WL.exT ?_ | refine WL.exB ?_ | refine WL.exN rfl ?_ | refine WL.reT ?_ | refine WL.reB ?_) | ((first | refine WL.reg rfl ?_ | refine WL.regT zai rfl ?_); (conv => { arg 3; simp [prep, prep1] }); (repeat (first | (refine zae ?_ ?_; (focus (simp; done)); (conv => { arg 4; simp (disch := omega) [h7, h1, wl, hallR, hlR, lR2, hz] }); (first | (first | refine zaa ?_ | (refine zac ?_; (conv => { arg 5; simp }))) | (refine zal false rfl rfl ⟨_, Tryz.func110, rfl, rfl⟩ ?_; (conv => { arg 6; simp (disch := omega) [h7, h1, wl, hallR, hlR, lR2, hz] }); refine zaf (cC) rfl ?_; (conv => { arg 5; simp (disch := omega) [h7, h1, wl, hallR, hlR, lR2, hz] })))) | (refine zab rfl ?_ ?_; (focus (simp; done))))); with_reducible refine zad ?_; (first | refine ⟨rfl, ?_⟩ | refine ⟨by simp [quietB], by simp [quietU], ?_⟩ | skip)) | (refine WL.cond ?_; (conv => { arg 1; simp (disch := omega) [h7, h1, wl, hallR, hlR, lR2, hz] }); with_reducible (first | refine zaj ?_ | refine zak ?_ | refine zag (by omega) ?_ | refine zah (by omega) ?_))))
      (first | refine WL.reg rfl ?_ | refine WL.regT zai rfl ?_); (conv => { arg 3; simp [prep, prep1] }); (repeat (first | (refine zae ?_ ?_; (focus (simp; done)); (conv => { arg 4; simp (disch := omega) [h7, h1, wl] }); (first | (first | refine zaa ?_ | (refine zac ?_; (conv => { arg 5; simp }))))) | (refine zab rfl ?_ ?_; (focus (simp; done)))))
      refine zbu [⟨15, 0, 0⟩] [] [] true cS ⟨_, Tryz.func111, rfl, rfl⟩ rfl rfl rfl (by simp (disch := omega) [h7, h1, wl, idx]) (by simp (disch := omega) [idx]) (by simp) (by simp) ?_; (conv => { arg 5; simp (disch := omega) [idx] })
      (repeat (first | (refine zae ?_ ?_; (focus (simp; done)); (conv => { arg 4; simp (disch := omega)  }); (first | refine zaa ?_ | (refine zac ?_; (conv => { arg 5; simp })))) | (refine zab rfl ?_ ?_; (focus (simp; done))))); with_reducible refine zad ?_
      (repeat (first | with_reducible (first | refine WL.seq ?_ | refine WL.skip ?_ | refine WL.label ?_ | refine WL.block ?_ | refine WL.scope ?_ | refine WL.nilS ?_ | refine WL.reS ?_ | refine WL.exS ?_ | refine WL.nilB ?_ | refine WL.nilT ?_ | refine WL.exit ?_ | refine WL.ret ?_ | refine WL.exT ?_ | refine WL.exB ?_ | refine WL.exN rfl ?_ | refine WL.reT ?_ | refine WL.reB ?_) | ((first | refine WL.reg rfl ?_ | refine WL.regT zai rfl ?_); (conv => { arg 3; simp [prep, prep1] }); (repeat (first | (refine zae ?_ ?_; (focus (simp; done)); (conv => { arg 4; simp (disch := omega) [h6, h8', hr0, s0, q1, ha0, hl0, lQ2] }); (first | (first | refine zaa ?_ | (refine zac ?_; (conv => { arg 5; simp }))))) | (refine zab rfl ?_ ?_; (focus (simp; done))))); with_reducible refine zad ?_; (first | refine ⟨rfl, ?_⟩ | refine ⟨by simp [quietB], by simp [quietU], ?_⟩ | skip)) | (refine WL.cond ?_; (conv => { arg 1; simp (disch := omega) [h6, h8', hr0, s0, q1, ha0, hl0, lQ2] }); with_reducible (first | refine zaj ?_ | refine zak ?_ | refine zag (by omega) ?_ | refine zah (by omega) ?_))))
      exact ⟨m, by omega, Q2.set 0 u, R3, hm1, by simp [h0'], by simp [h1, wl], by simp [h6], by simp [h7], by simp, by simp, by simp, hlset, by omega, hwf, wS, by omega, by omega⟩
    · obtain ⟨k1, k2⟩ := hdb.1 (by omega)
      have hz : cmpI (val R2) (val b) = -1 := by unfold cmpI; rw [if_pos (by omega)]
      rw [hz] at cC
      (repeat (first | with_reducible (first | refine WL.seq ?_ | refine WL.skip ?_ | refine WL.label ?_ | refine WL.block ?_ | refine WL.scope ?_ | refine WL.nilS ?_ | refine WL.reS ?_ | refine WL.exS ?_ | refine WL.nilB ?_ | refine WL.nilT ?_ | refine WL.exit ?_ | refine WL.ret ?_ | refine WL.exT ?_ | refine WL.exB ?_ | refine WL.exN rfl ?_ | refine WL.reT ?_ | refine WL.reB ?_) | ((first | refine WL.reg rfl ?_ | refine WL.regT zai rfl ?_); (conv => { arg 3; simp [prep, prep1] }); (repeat (first | (refine zae ?_ ?_; (focus (simp; done)); (conv => { arg 4; simp (disch := omega) [h7, h1, wl, hallR, hlR, lR2, h8'] }); (first | (first | refine zaa ?_ | (refine zac ?_; (conv => { arg 5; simp }))) | (refine zal false rfl rfl ⟨_, Tryz.func110, rfl, rfl⟩ ?_; (conv => { arg 6; simp (disch := omega) [h7, h1, wl, hallR, hlR, lR2, h8'] }); refine zaf (cC) rfl ?_; (conv => { arg 5; simp (disch := omega) [h7, h1, wl, hallR, hlR, lR2, h8'] })))) | (refine zab rfl ?_ ?_; (focus (simp; done))))); with_reducible refine zad ?_; (first | refine ⟨rfl, ?_⟩ | refine ⟨by simp [quietB], by simp [quietU], ?_⟩ | skip)) | (refine WL.cond ?_; (conv => { arg 1; simp (disch := omega) [h7, h1, wl, hallR, hlR, lR2, h8'] }); with_reducible (first | refine zaj ?_ | refine zak ?_ | refine zag (by omega) ?_ | refine zah (by omega) ?_))))
      exact ⟨m, by omega, Q2, R2, hm1, by simp [h0'], by simp [h1, wl], by simp [h6], by simp [h7], by simp, by simp, by simp, lQ2, lR2, wQ2, wR2, by omega, by omega⟩
theorem refZeros (x : Nat) (h0 : x ≠ 0) (hx : x < 4294967296) : CallOk Tryz.prog 155 [w32 x] [] (.int .i64 (tz x)) [] := by
  have hI : ¬ (x : Int) = 0 := by omega
  refine CallOk.of_wl Tryz.func155 rfl rfl rfl (Nat.le_of_ble_eq_true rfl) ?_
  (repeat (first | with_reducible (first | refine WL.seq ?_ | refine WL.skip ?_ | refine WL.label ?_ | refine WL.block ?_ | refine WL.scope ?_ | refine WL.nilS ?_ | refine WL.reS ?_ | refine WL.exS ?_ | refine WL.nilB ?_ | refine WL.nilT ?_ | refine WL.exit ?_ | refine WL.ret ?_ | refine WL.exT ?_ | refine WL.exB ?_ | refine WL.exN rfl ?_ | refine WL.reT ?_ | refine WL.reB ?_) | ((first | refine WL.reg rfl ?_ | refine WL.regT zai rfl ?_); (conv => { arg 3; simp [prep, prep1] }); (repeat (first | (refine zae ?_ ?_; (focus (simp; done)); (conv => { arg 4; simp (disch := omega) [w32, hI, h0] }); (first | (first | refine zaa ?_ | (refine zac ?_; (conv => { arg 5; simp }))))) | (refine zab rfl ?_ ?_; (focus (simp; done))))); with_reducible refine zad ?_; (first | refine ⟨rfl, ?_⟩ | refine ⟨by simp [quietB], by simp [quietU], ?_⟩ | skip)) | (refine WL.cond ?_; (conv => { arg 1; simp (disch := omega) [w32, hI, h0] }); with_reducible (first | refine zaj ?_ | refine zak ?_ | refine zag (by omega) ?_ | refine zah (by omega) ?_))))
  refine WL.loop (fun m s => ∃ n : Nat, m ≠ 0 ∧ m ≤ x ∧ s.frame 0 = .int .u32 m ∧ s.frame 3 = .int .i64 n ∧ tz x = tz m + n ∧ n ≤ x) x ?_ ?_
  · exact ⟨0, h0, by omega, by simp, by simp, by omega, by omega⟩
  rintro m ⟨f, σ, g⟩ ⟨n, hm0, hmx, hf0, hf3, ht, hn⟩
  simp only at hf0 hf3
  have q1 : (m : Int).tmod 2 = ((m % 2 : Nat) : Int) := rfl
  have q2 : (m : Int).tdiv 2 = ((m / 2 : Nat) : Int) := rfl
  by_cases hev : m % 2 = 0
  · have hz := zju hm0 hev
    have hm2 : m / 2 ≠ 0 := by omega
    have hm3 : m / 2 < m := by omega
    rw [hev] at q1
    have q3 : ((m / 2 : Nat) : Int) % 4294967296 = ((m / 2 : Nat) : Int) := by omega
    have hn2 : n + 1 ≤ x := by
      have : ∀ k y : Nat, y ≠ 0 → tz y + 1 ≤ y := fun _ y hy => by
        have := zei y
        have h1 := zhb hy
        have h2 : tz y < 2 ^ tz y := Nat.lt_two_pow_self
        have h3 : 1 * 2 ^ tz y ≤ oddP y * 2 ^ tz y := Nat.mul_le_mul_right _ h1
        omega
      have := this 0 x h0
      omega
    generalize m / 2 = y at *
    (repeat (first | with_reducible (first | refine WL.seq ?_ | refine WL.skip ?_ | refine WL.label ?_ | refine WL.block ?_ | refine WL.scope ?_ | refine WL.nilS ?_ | refine WL.reS ?_ | refine WL.exS ?_ | refine WL.nilB ?_ | refine WL.nilT ?_ | refine WL.exit ?_ | refine WL.ret ?_ | refine WL.exT ?_ | refine WL.exB ?_ | refine WL.exN rfl ?_ | refine WL.reT ?_ | refine WL.reB ?_) | ((first | refine WL.reg rfl ?_ | refine WL.regT zai rfl ?_); (conv => { arg 3; simp [prep, prep1] }); (repeat (first | (refine zae ?_ ?_; (focus (simp; done)); (conv => { arg 4; simp (disch := omega) [hf0, hf3, q1, q2, q3] }); (first | (first | refine zaa ?_ | (refine zac ?_; (conv => { arg 5; simp }))))) | (refine zab rfl ?_ ?_; (focus (simp; done))))); with_reducible refine zad ?_; (first | refine ⟨rfl, ?_⟩ | refine ⟨by simp [quietB], by simp [quietU], ?_⟩ | skip)) | (refine WL.cond ?_; (conv => { arg 1; simp (disch := omega) [hf0, hf3, q1, q2, q3] }); with_reducible (first | refine zaj ?_ | refine zak ?_ | refine zag (by omega) ?_ | refine zah (by omega) ?_))))
    exact ⟨y, by omega, n + 1, hm2, by omega, by simp, by simp, by omega, hn2⟩
  · have hz := zpe (n := m) (by omega)
    have hev1 : m % 2 = 1 := by omega
    rw [hev1] at q1
    have ht' : tz x = n := by omega
    (repeat (first | with_reducible (first | refine WL.seq ?_ | refine WL.skip ?_ | refine WL.label ?_ | refine WL.block ?_ | refine WL.scope ?_ | refine WL.nilS ?_ | refine WL.reS ?_ | refine WL.exS ?_ | refine WL.nilB ?_ | refine WL.nilT ?_ | refine WL.exit ?_ | refine WL.ret ?_ | refine WL.exT ?_ | refine WL.exB ?_ | refine WL.exN rfl ?_ | refine WL.reT ?_ | refine WL.reB ?_) | ((first | refine WL.reg rfl ?_ | refine WL.regT zai rfl ?_); (conv => { arg 3; simp [prep, prep1] }); (repeat (first | (refine zae ?_ ?_; (focus (simp; done)); (conv => { arg 4; simp (disch := omega) [hf0, hf3, q1] }); (first | (first | refine zaa ?_ | (refine zac ?_; (conv => { arg 5; simp }))))) | (refine zab rfl ?_ ?_; (focus (simp; done))))); with_reducible refine zad ?_; (first | refine ⟨rfl, ?_⟩ | refine ⟨by simp [quietB], by simp [quietU], ?_⟩ | skip)) | (refine WL.cond ?_; (conv => { arg 1; simp (disch := omega) [hf0, hf3, q1] }); with_reducible (first | refine zaj ?_ | refine zak ?_ | refine zag (by omega) ?_ | refine zah (by omega) ?_))))
    refine ⟨[], ?_⟩
    simp (disch := omega) [ht']
theorem refDown (v o n k : Nat) (P X S : List Nat) (hP : P.length = o) (hn : X.length = n) (hX : wf X) (hk : k < 32) (hl : o + n + S.length ≤ 4398046511104) :
    CallOk Tryz.prog 156 [.sl ⟨0, 0, 0⟩ v o n 1, .int .i64 k] [⟨v, true, true, ws (P ++ (X ++ S))⟩] (.sl ⟨0, 0, 0⟩ v o (trimL (dnL k X)).length 1) [⟨v, true, true, ws (P ++ (dnL k X ++ S))⟩] := by
  have hmn : min k 64 = k := by omega
  have hpp : (0 : Int) ≤ 2 ^ k := Int.pow_nonneg (by decide)
  refine CallOk.of_wl Tryz.func156 rfl rfl rfl (Nat.le_of_ble_eq_true rfl) ?_
  (repeat (first | with_reducible (first | refine WL.seq ?_ | refine WL.skip ?_ | refine WL.label ?_ | refine WL.block ?_ | refine WL.scope ?_ | refine WL.nilS ?_ | refine WL.reS ?_ | refine WL.exS ?_ | refine WL.nilB ?_ | refine WL.nilT ?_ | refine WL.exit ?_ | refine WL.ret ?_ | refine WL.exT ?_ | refine WL.exB ?_ | refine WL.exN rfl ?_ | refine WL.reT ?_ | refine WL.reB ?_) | ((first | refine WL.reg rfl ?_ | refine WL.regT zai rfl ?_); (conv => { arg 3; simp [prep, prep1] }); (repeat (first | (refine zae ?_ ?_; (focus (simp; done)); (conv => { arg 4; simp (disch := omega)  }); (first | (first | refine zaa ?_ | (refine zac ?_; (conv => { arg 5; simp }))))) | (refine zab rfl ?_ ?_; (focus (simp; done))))); with_reducible refine zad ?_; (first | refine ⟨rfl, ?_⟩ | refine ⟨by simp [quietB], by simp [quietU], ?_⟩ | skip)) | (refine WL.cond ?_; (conv => { arg 1; simp (disch := omega)  }); with_reducible (first | refine zaj ?_ | refine zak ?_ | refine zag (by omega) ?_ | refine zah (by omega) ?_))))
  refine WL.loop (fun m s => ∃ (i : Nat) (pre : List Nat), m = n - i ∧ i ≤ n ∧ s.frame 0 = .sl ⟨0, 0, 0⟩ v o n 1 ∧ s.frame 1 = .int .i64 k ∧ s.frame 5 = .int .i64 i ∧
      s.store ⟨0, 0, 0⟩ = some ⟨v, true, true, ws (P ++ (pre ++ (X.drop i ++ S)))⟩ ∧ pre.length = i ∧ pre ++ dnL k (X.drop i) = dnL k X) n ?_ ?_
  · exact ⟨0, [], by omega, by omega, by simp, by simp, by simp, by simp [stOf], rfl, by simp⟩
  rintro m ⟨f, σ, g⟩ ⟨i, pre, rfl, hi, h0, h1, h5, hst, hpre, hT⟩
  simp only at h0 h1 h5 hst
  by_cases hi' : i < n
  · have hx := zbl hX i
    have hy := zbl hX (i + 1)
    have hstep : dnL k (X.drop i) = (X.getD i 0 + 4294967296 * X.getD (i + 1) 0) / 2 ^ k % 4294967296 :: dnL k (X.drop (i + 1)) := by rw [zaz (by omega), dnL, zbb]
    rw [hstep] at hT
    have hB : i + 1 < n → X.drop (i + 1) = X.getD (i + 1) 0 :: X.drop (i + 2) := fun h => zaz (by omega)
    have hB' : ¬ i + 1 < n → X.getD (i + 1) 0 = 0 := fun h => by simp [List.getD_eq_getElem?_getD, List.getElem?_eq_none (show X.length ≤ i + 1 by omega)]
    rw [zaz (X := X) (i := i) (by omega)] at hst
    generalize X.getD i 0 = x at *
    generalize X.getD (i + 1) 0 = y at *
    have e1 : ((y : Int) * 4294967296 + (x : Int)) / 2 ^ k % 4294967296 = (((x + 4294967296 * y) / 2 ^ k % 4294967296 : Nat) : Int) := by
      have : ((y : Int) * 4294967296 + (x : Int)) = ((x + 4294967296 * y : Nat) : Int) := by omega
      rw [this]; simp
    have w1 : (0 : Int) ≤ (y : Int) * 4294967296 + (x : Int) ∧ (y : Int) * 4294967296 + (x : Int) ≤ 18446744073709551615 := by omega
    have w2 : (0 : Int) ≤ (y : Int) * 4294967296 ∧ (y : Int) * 4294967296 ≤ 18446744073709551615 := by omega
    have s0 := zbm (X := P ++ (pre ++ x :: (X.drop (i + 1) ++ S))) (i := o + i) (v := (((x + 4294967296 * y) / 2 ^ k % 4294967296 : Nat) : Int)) (by simp; omega) rfl
    rw [zdc (by omega)] at s0
    have r0 : (ws (P ++ (pre ++ x :: (X.drop (i + 1) ++ S))))[o + i]? = some (.int .u32 (x : Int)) := by
      rw [zbk (by simp; omega), znv hP hpre]
    have r1 : i + 1 < n → (ws (P ++ (pre ++ x :: (X.drop (i + 1) ++ S))))[o + (i + 1)]? = some (.int .u32 (y : Int)) := fun h => by
      rw [zbk (by simp; omega), hB h]
      congr 3
      have := znv (P := P) (pre := pre ++ [x]) (D := X.drop (i + 2) ++ S) (x := y) (i := i + 1) hP (by simp [hpre])
      simpa using this
    have hlen : o + i < P.length + (pre.length + (1 + (X.length - (i + 1) + S.length))) := by omega
    simp only [List.append_assoc, List.cons_append, List.nil_append] at s0 hst
    generalize (x + 4294967296 * y) / 2 ^ k % 4294967296 = u at *
    by_cases hi1 : i + 1 < n
    · have r1 := r1 hi1
      have hi1I : (i : Int) + 1 < n := by omega
      have hi1N : ((i : Int) + 1).toNat = i + 1 := by omega
      have hlen1 : o + (i + 1) < P.length + (pre.length + (1 + (X.length - (i + 1) + S.length))) := by omega
      (repeat (first | with_reducible (first | refine WL.seq ?_ | refine WL.skip ?_ | refine WL.label ?_ | refine WL.block ?_ | refine WL.scope ?_ | refine WL.nilS ?_ | refine WL.reS ?_ | refine WL.exS ?_ | refine WL.nilB ?_ | refine WL.nilT ?_ | refine WL.exit ?_ | refine WL.ret ?_ | refine WL.exT ?_ | refine WL.exB ?_ | refine WL.exN rfl ?_ | refine WL.reT ?_ | refine WL.reB ?_) | ((first | refine WL.reg rfl ?_ | refine WL.regT zai rfl ?_); (conv => { arg 3; simp [prep, prep1] }); (repeat (first | (refine zae ?_ ?_; (focus (simp; done)); (conv => { arg 4; simp (disch := omega) [h0, h1, h5, hst, hi', hi1, hi1I, hi1N, r0, r1, hmn, hpp, e1, s0, hlen, hlen1] }); (first | (first | refine zaa ?_ | (refine zac ?_; (conv => { arg 5; simp }))))) | (refine zab rfl ?_ ?_; (focus (simp; done))))); with_reducible refine zad ?_; (first | refine ⟨rfl, ?_⟩ | refine ⟨by simp [quietB], by simp [quietU], ?_⟩ | skip)) | (refine WL.cond ?_; (conv => { arg 1; simp (disch := omega) [h0, h1, h5, hst, hi', hi1, hi1I, hi1N, r0, r1, hmn, hpp, e1, s0, hlen, hlen1] }); with_reducible (first | refine zaj ?_ | refine zak ?_ | refine zag (by omega) ?_ | refine zah (by omega) ?_))))
      exact ⟨n - (i + 1), by omega, i + 1, pre ++ [u], rfl, by omega, by simp [h0], by simp [h1], by simp, by simp, by simp [hpre], by rw [← hT]; simp⟩
    · have hi1I : ¬ (i : Int) + 1 < n := by omega
      have hy0 := hB' hi1
      subst hy0
      simp only [Int.natCast_zero, Int.zero_mul, Int.zero_add] at e1
      (repeat (first | with_reducible (first | refine WL.seq ?_ | refine WL.skip ?_ | refine WL.label ?_ | refine WL.block ?_ | refine WL.scope ?_ | refine WL.nilS ?_ | refine WL.reS ?_ | refine WL.exS ?_ | refine WL.nilB ?_ | refine WL.nilT ?_ | refine WL.exit ?_ | refine WL.ret ?_ | refine WL.exT ?_ | refine WL.exB ?_ | refine WL.exN rfl ?_ | refine WL.reT ?_ | refine WL.reB ?_) | ((first | refine WL.reg rfl ?_ | refine WL.regT zai rfl ?_); (conv => { arg 3; simp [prep, prep1] }); (repeat (first | (refine zae ?_ ?_; (focus (simp; done)); (conv => { arg 4; simp (disch := omega) [h0, h1, h5, hst, hi', hi1, hi1I, r0, hmn, hpp, e1, s0, hlen] }); (first | (first | refine zaa ?_ | (refine zac ?_; (conv => { arg 5; simp }))))) | (refine zab rfl ?_ ?_; (focus (simp; done))))); with_reducible refine zad ?_; (first | refine ⟨rfl, ?_⟩ | refine ⟨by simp [quietB], by simp [quietU], ?_⟩ | skip)) | (refine WL.cond ?_; (conv => { arg 1; simp (disch := omega) [h0, h1, h5, hst, hi', hi1, hi1I, r0, hmn, hpp, e1, s0, hlen] }); with_reducible (first | refine zaj ?_ | refine zak ?_ | refine zag (by omega) ?_ | refine zah (by omega) ?_))))
      exact ⟨n - (i + 1), by omega, i + 1, pre ++ [u], rfl, by omega, by simp [h0], by simp [h1], by simp, by simp, by simp [hpre], by rw [← hT]; simp⟩
  · have hia : i = n := by omega
    subst hia
    rw [List.drop_of_length_le (by omega)] at hT hst
    simp only [dnL, List.append_nil, List.nil_append] at hT hst
    rw [hT] at hst
    have hdl := zkv k X
    have hdw := znc k X
    clear hT hpp hmn
    generalize dnL k X = D at *
    (repeat (first | with_reducible (first | refine WL.seq ?_ | refine WL.skip ?_ | refine WL.label ?_ | refine WL.block ?_ | refine WL.scope ?_ | refine WL.nilS ?_ | refine WL.reS ?_ | refine WL.exS ?_ | refine WL.nilB ?_ | refine WL.nilT ?_ | refine WL.exit ?_ | refine WL.ret ?_ | refine WL.exT ?_ | refine WL.exB ?_ | refine WL.exN rfl ?_ | refine WL.reT ?_ | refine WL.reB ?_) | ((first | refine WL.reg rfl ?_ | refine WL.regT zai rfl ?_); (conv => { arg 3; simp [prep, prep1] }); (repeat (first | (refine zae ?_ ?_; (focus (simp; done)); (conv => { arg 4; simp (disch := omega) [h0, h5, hst] }); (first | (first | refine zaa ?_ | (refine zac ?_; (conv => { arg 5; simp }))))) | (refine zab rfl ?_ ?_; (focus (simp; done))))); with_reducible refine zad ?_; (first | refine ⟨rfl, ?_⟩ | refine ⟨by simp [quietB], by simp [quietU], ?_⟩ | skip)) | (refine WL.cond ?_; (conv => { arg 1; simp (disch := omega) [h0, h5, hst] }); with_reducible (first | refine zaj ?_ | refine zak ?_ | refine zag (by omega) ?_ | refine zah (by omega) ?_))))
    refine WL.loop (fun m s => m ≤ i ∧ s.frame 0 = .sl ⟨0, 0, 0⟩ v o m 1 ∧ s.store ⟨0, 0, 0⟩ = some ⟨v, true, true, ws (P ++ (D ++ S))⟩ ∧ trimL D = trimL (D.take m)) i ?_ ?_
    · exact ⟨by omega, by simp [h0], by simp [hst], by rw [List.take_of_length_le (by omega)]⟩
    clear h0 h1 h5 hst
    rintro m ⟨f, σ, g⟩ ⟨hm, h0, hst, ht⟩
    simp only at h0 hst
    cases m with
    | zero =>
      have ht0 : trimL D = [] := by rw [ht]; simp [trimL]
      (repeat (first | with_reducible (first | refine WL.seq ?_ | refine WL.skip ?_ | refine WL.label ?_ | refine WL.block ?_ | refine WL.scope ?_ | refine WL.nilS ?_ | refine WL.reS ?_ | refine WL.exS ?_ | refine WL.nilB ?_ | refine WL.nilT ?_ | refine WL.exit ?_ | refine WL.ret ?_ | refine WL.exT ?_ | refine WL.exB ?_ | refine WL.exN rfl ?_ | refine WL.reT ?_ | refine WL.reB ?_) | ((first | refine WL.reg rfl ?_ | refine WL.regT zai rfl ?_); (conv => { arg 3; simp [prep, prep1] }); (repeat (first | (refine zae ?_ ?_; (focus (simp; done)); (conv => { arg 4; simp (disch := omega) [h0, hst] }); (first | (first | refine zaa ?_ | (refine zac ?_; (conv => { arg 5; simp }))))) | (refine zab rfl ?_ ?_; (focus (simp; done))))); with_reducible refine zad ?_; (first | refine ⟨rfl, ?_⟩ | refine ⟨by simp [quietB], by simp [quietU], ?_⟩ | skip)) | (refine WL.cond ?_; (conv => { arg 1; simp (disch := omega) [h0, hst] }); with_reducible (first | refine zaj ?_ | refine zak ?_ | refine zag (by omega) ?_ | refine zah (by omega) ?_))))
      refine ⟨[⟨0, 0, 0⟩], ?_⟩
      simp (disch := omega) [ht0, idx, h0, hst]
    | succ m =>
      have hlt : m < D.length := by omega
      have r0 : (ws (P ++ (D ++ S)))[o + m]? = some (.int .u32 ((D[m]'hlt : Nat) : Int)) := by
        rw [zbk (by simp; omega), ← List.append_assoc, zci (by simp; omega), zbq (by omega), show o + m - P.length = m by omega, List.getD_eq_getElem?_getD, List.getElem?_eq_getElem hlt]; rfl
      have hlen : o + m < P.length + (D.length + S.length) := by omega
      have hlen2 : o + (m + 1) ≤ P.length + (D.length + S.length) := by omega
      by_cases hz : D[m]'hlt = 0
      · rw [hz] at r0
        have ht2 := zcf hlt hz
        (repeat (first | with_reducible (first | refine WL.seq ?_ | refine WL.skip ?_ | refine WL.label ?_ | refine WL.block ?_ | refine WL.scope ?_ | refine WL.nilS ?_ | refine WL.reS ?_ | refine WL.exS ?_ | refine WL.nilB ?_ | refine WL.nilT ?_ | refine WL.exit ?_ | refine WL.ret ?_ | refine WL.exT ?_ | refine WL.exB ?_ | refine WL.exN rfl ?_ | refine WL.reT ?_ | refine WL.reB ?_) | ((first | refine WL.reg rfl ?_ | refine WL.regT zai rfl ?_); (conv => { arg 3; simp [prep, prep1] }); (repeat (first | (refine zae ?_ ?_; (focus (simp; done)); (conv => { arg 4; simp (disch := omega) [h0, hst, r0, hlen, hlen2] }); (first | (first | refine zaa ?_ | (refine zac ?_; (conv => { arg 5; simp }))))) | (refine zab rfl ?_ ?_; (focus (simp; done))))); with_reducible refine zad ?_; (first | refine ⟨rfl, ?_⟩ | refine ⟨by simp [quietB], by simp [quietU], ?_⟩ | skip)) | (refine WL.cond ?_; (conv => { arg 1; simp (disch := omega) [h0, hst, r0, hlen, hlen2] }); with_reducible (first | refine zaj ?_ | refine zak ?_ | refine zag (by omega) ?_ | refine zah (by omega) ?_))))
        exact ⟨m, by omega, by omega, by simp, by simp [hst], by rw [ht, ht2]⟩
      · have hne : ¬ ((D[m]'hlt : Nat) : Int) = 0 := by omega
        have e := zcl hlt hz
        rw [← ht] at e
        have hle : (trimL D).length = m + 1 := by rw [e]; simp; omega
        generalize D[m]'hlt = x at *
        (repeat (first | with_reducible (first | refine WL.seq ?_ | refine WL.skip ?_ | refine WL.label ?_ | refine WL.block ?_ | refine WL.scope ?_ | refine WL.nilS ?_ | refine WL.reS ?_ | refine WL.exS ?_ | refine WL.nilB ?_ | refine WL.nilT ?_ | refine WL.exit ?_ | refine WL.ret ?_ | refine WL.exT ?_ | refine WL.exB ?_ | refine WL.exN rfl ?_ | refine WL.reT ?_ | refine WL.reB ?_) | ((first | refine WL.reg rfl ?_ | refine WL.regT zai rfl ?_); (conv => { arg 3; simp [prep, prep1] }); (repeat (first | (refine zae ?_ ?_; (focus (simp; done)); (conv => { arg 4; simp (disch := omega) [h0, hst, r0, hlen, hlen2, hne, hz] }); (first | (first | refine zaa ?_ | (refine zac ?_; (conv => { arg 5; simp }))))) | (refine zab rfl ?_ ?_; (focus (simp; done))))); with_reducible refine zad ?_; (first | refine ⟨rfl, ?_⟩ | refine ⟨by simp [quietB], by simp [quietU], ?_⟩ | skip)) | (refine WL.cond ?_; (conv => { arg 1; simp (disch := omega) [h0, hst, r0, hlen, hlen2, hne, hz] }); with_reducible (first | refine zaj ?_ | refine zak ?_ | refine zag (by omega) ?_ | refine zah (by omega) ?_))))
        refine ⟨[⟨0, 0, 0⟩], ?_⟩
        simp (disch := omega) [hle, idx, h0, hst]
theorem lead : ∀ X : List Nat, val X ≠ 0 → ∃ (k : Nat) (X' : List Nat), X = List.replicate k 0 ++ X' ∧ X'.getD 0 0 ≠ 0
  | [], h => absurd rfl h
  | x :: r, h => by
    by_cases hx : x = 0
    · subst hx
      obtain ⟨k, X', h1, h2⟩ := lead r (fun h' => h (by simp [val, h']))
      exact ⟨k + 1, X', by rw [h1, List.replicate_succ]; rfl, h2⟩
    · exact ⟨0, x :: r, by simp, by simpa using hx⟩
theorem zrp {x : Nat} (h0 : x ≠ 0) (hx : x < 4294967296) : tz x < 32 := by
  apply Decidable.byContradiction
  intro h
  have h1 := zei x
  have h2 := zhb h0
  have h3 : 2 ^ 32 ≤ 2 ^ tz x := Nat.pow_le_pow_right (by decide) (by omega)
  have h4 : 1 * 2 ^ tz x ≤ oddP x * 2 ^ tz x := Nat.mul_le_mul_right _ h2
  omega
theorem tz_low {x r : Nat} (h0 : x ≠ 0) (hx : x < 4294967296) : tz (x + 4294967296 * r) = tz x := by
  have ht := zrp h0 hx
  have h1 := zei x
  have h2 := zcs h0
  have h3 : (4294967296 : Nat) = 2 * 2 ^ (31 - tz x) * 2 ^ tz x := by
    rw [← Nat.pow_succ', ← Nat.pow_add, show (31 - tz x).succ + tz x = 32 by omega]
  have h4 : x + 4294967296 * r = (oddP x + 2 * (2 ^ (31 - tz x) * r)) * 2 ^ tz x := by
    rw [Nat.add_mul, h1]
    congr 1
    conv => lhs; rw [h3]
    simp only [Nat.mul_comm, Nat.mul_left_comm, Nat.mul_assoc]
  rw [h4, (zjf _ (by omega)).1, zpe (by omega), Nat.zero_add]
theorem zno (v o n : Nat) (P X S : List Nat) (hP : P.length = o) (hn : X.length = n) (hX : wf X) (h0 : val X ≠ 0) (hl : o + n + S.length ≤ 4398046511104) :
    ∃ (o' : Nat) (P' S' : List Nat), P'.length = o' ∧ o' + (nw (oddP (val X))).length + S'.length = o + n + S.length ∧
      CallOk Tryz.prog 109 [.sl ⟨0, 0, 0⟩ v o n 1] [⟨v, true, true, ws (P ++ (X ++ S))⟩] (.tup [.sl ⟨0, 0, 0⟩ v o' (nw (oddP (val X))).length 1, .int .i64 (tz (val X))]) [⟨v, true, true, ws (P' ++ (nw (oddP (val X)) ++ S'))⟩] := by
  obtain ⟨k, X', hX', hne⟩ := lead X h0
  have hlX : X.length = k + X'.length := by rw [hX']; simp
  have hX1 : X' ≠ [] := fun h => by rw [h] at hne; simp at hne
  have hX1l : 0 < X'.length := List.length_pos_iff.2 hX1
  have hw' : wf X' := fun x hx => hX x (by rw [hX']; simp [hx])
  have hx0 := zbl hw' 0
  have hvX : val X = val X' * 2 ^ (32 * k) := by
    rw [hX', zdn, zce, List.length_replicate, zom, Nat.zero_add, Nat.mul_comm]
  have hvX' : val X' = X'.getD 0 0 + 4294967296 * val X'.tail := by
    cases X' with
    | nil => exact absurd rfl hX1
    | cons x r => simp [val]
  have hv0 : val X' ≠ 0 := by omega
  obtain ⟨t1, t2⟩ := zjf (32 * k) hv0
  rw [← hvX] at t1 t2
  have t3 : tz (val X') = tz (X'.getD 0 0) := by rw [hvX']; exact tz_low hne hx0
  have ht := zrp hne hx0
  have hD := zba (znc (tz (X'.getD 0 0)) X')
  rw [zmi _ ht X' hw', ← t3, show val X' / 2 ^ tz (val X') = oddP (val X') from rfl, ← t2, t3] at hD
  obtain ⟨n', hn', hT⟩ := zho (dnL (tz (X'.getD 0 0)) X')
  have hDs : dnL (tz (X'.getD 0 0)) X' = nw (oddP (val X)) ++ (dnL (tz (X'.getD 0 0)) X').drop n' := by
    rw [← hD, hT, List.take_append_drop]
  have hDl := zkv (tz (X'.getD 0 0)) X'
  have hnl : (nw (oddP (val X))).length = n' := by rw [← hD, hT, List.length_take]; omega
  refine ⟨o + k, P ++ List.replicate k 0, (dnL (tz (X'.getD 0 0)) X').drop n' ++ S, by simp [hP], by rw [hnl, List.length_append, List.length_drop, hDl]; omega, ?_⟩
  have cD := refDown v (o + k) (n - k) (tz (X'.getD 0 0)) (P ++ List.replicate k 0) X' S (by simp [hP]) (by omega) hw' ht (by omega)
  rw [hD] at cD
  have hblk : (P ++ List.replicate k 0) ++ (X' ++ S) = P ++ (X ++ S) := by rw [hX']; simp
  rw [hblk] at cD
  have hblk2 : (P ++ List.replicate k 0) ++ (dnL (tz (X'.getD 0 0)) X' ++ S) = (P ++ List.replicate k 0) ++ (nw (oddP (val X)) ++ ((dnL (tz (X'.getD 0 0)) X').drop n' ++ S)) := by
    conv => lhs; rw [hDs]
    rw [List.append_assoc (nw (oddP (val X)))]
  rw [hblk2] at cD
  have cZ := refZeros (X'.getD 0 0) hne hx0
  have htz : tz (val X) = 32 * k + tz (X'.getD 0 0) := by omega
  rw [htz]
  have r0 : ∀ i, i < k → (ws (P ++ (X ++ S)))[o + i]? = some (.int .u32 0) := fun i hi => by
    rw [zbk (by simp; omega)]
    congr 2
    rw [← List.append_assoc, zci (by simp; omega), zbq (by omega), show o + i - P.length = i by omega, hX', zci (by simp; omega), zcw]; rfl
  have rk : (ws (P ++ (X ++ S)))[o + k]? = some (.int .u32 ((X'.getD 0 0 : Nat) : Int)) := by
    rw [zbk (by simp; omega)]
    congr 3
    rw [← List.append_assoc, zci (by simp; omega), zbq (by omega), show o + k - P.length = k by omega, hX', zbq (by simp), List.length_replicate, Nat.sub_self]
  have hbl : (ws (P ++ (X ++ S))).length = o + n + S.length := by simp [ws]; omega
  generalize ws (P ++ (X ++ S)) = B at *
  generalize ws (P ++ List.replicate k 0 ++ (nw (oddP (val X)) ++ ((dnL (tz (X'.getD 0 0)) X').drop n' ++ S))) = B2 at *
  generalize (nw (oddP (val X))).length = nl at *
  have hneI : ¬ ((X'.getD 0 0 : Nat) : Int) = 0 := by omega
  generalize X'.getD 0 0 = x0 at *
  have hkn : k < n := by omega
  clear hbl t1 t2 t3 hvX hvX' hblk hblk2 hD hT hDs hDl hnl htz hX' hw'
  refine CallOk.of_wl Tryz.func109 rfl rfl rfl (Nat.le_of_ble_eq_true rfl) ?_
  (repeat (first | with_reducible (first | refine WL.seq ?_ | refine WL.skip ?_ | refine WL.label ?_ | refine WL.block ?_ | refine WL.scope ?_ | refine WL.nilS ?_ | refine WL.reS ?_ | refine WL.exS ?_ | refine WL.nilB ?_ | refine WL.nilT ?_ | refine WL.exit ?_ | refine WL.ret ?_ | refine WL.exT ?_ | refine WL.exB ?_ | refine WL.exN rfl ?_ | refine WL.reT ?_ | refine WL.reB ?_) | ((first | refine WL.reg rfl ?_ | refine WL.regT zai rfl ?_); (conv => { arg 3; simp [prep, prep1] }); (repeat (first | (refine zae ?_ ?_; (focus (simp; done)); (conv => { arg 4; simp (disch := omega)  }); (first | (first | refine zaa ?_ | (refine zac ?_; (conv => { arg 5; simp }))))) | (refine zab rfl ?_ ?_; (focus (simp; done))))); with_reducible refine zad ?_; (first | refine ⟨rfl, ?_⟩ | refine ⟨by simp [quietB], by simp [quietU], ?_⟩ | skip)) | (refine WL.cond ?_; (conv => { arg 1; simp (disch := omega)  }); with_reducible (first | refine zaj ?_ | refine zak ?_ | refine zag (by omega) ?_ | refine zah (by omega) ?_))))
  refine WL.loop (fun m s => ∃ i : Nat, m = k - i ∧ i ≤ k ∧ s.frame 0 = .sl ⟨0, 0, 0⟩ v (o + i) (n - i) 1 ∧ s.frame 4 = .int .i64 ((32 * i : Nat) : Int) ∧ s.store ⟨0, 0, 0⟩ = some ⟨v, true, true, B⟩) k ?_ ?_
  · exact ⟨0, by omega, by omega, by simp, by simp, by simp [stOf]⟩
  rintro m ⟨f, σ, g⟩ ⟨i, rfl, hi, hf0, hf4, hst⟩
  simp only at hf0 hf4 hst
  by_cases hi' : i < k
  · have r := r0 i hi'
    have hni : 0 < n - i := by omega
    have hni2 : 1 < n - i := by omega
    have hni3 : 1 ≤ n - i := by omega
    have hni4 : i < n := by omega
    have e1 : o + i + 1 = o + (i + 1) := by omega
    have e2 : n - i - 1 = n - (i + 1) := by omega
    have hln : o + i < o + n + S.length := by omega
    (repeat (first | with_reducible (first | refine WL.seq ?_ | refine WL.skip ?_ | refine WL.label ?_ | refine WL.block ?_ | refine WL.scope ?_ | refine WL.nilS ?_ | refine WL.reS ?_ | refine WL.exS ?_ | refine WL.nilB ?_ | refine WL.nilT ?_ | refine WL.exit ?_ | refine WL.ret ?_ | refine WL.exT ?_ | refine WL.exB ?_ | refine WL.exN rfl ?_ | refine WL.reT ?_ | refine WL.reB ?_) | ((first | refine WL.reg rfl ?_ | refine WL.regT zai rfl ?_); (conv => { arg 3; simp [prep, prep1] }); (repeat (first | (refine zae ?_ ?_; (focus (simp; done)); (conv => { arg 4; simp (disch := omega) [hf0, hf4, hst, r, hni, hni2, hni3, hni4, e1, e2] }); (first | (first | refine zaa ?_ | (refine zac ?_; (conv => { arg 5; simp }))))) | (refine zab rfl ?_ ?_; (focus (simp; done))))); with_reducible refine zad ?_; (first | refine ⟨rfl, ?_⟩ | refine ⟨by simp [quietB], by simp [quietU], ?_⟩ | skip)) | (refine WL.cond ?_; (conv => { arg 1; simp (disch := omega) [hf0, hf4, hst, r, hni, hni2, hni3, hni4, e1, e2] }); with_reducible (first | refine zaj ?_ | refine zak ?_ | refine zag (by omega) ?_ | refine zah (by omega) ?_))))
    exact ⟨k - (i + 1), by omega, i + 1, rfl, by omega, by simp, by simp; omega, by simp [hst]⟩
  · have hia : i = k := by omega
    subst hia
    have hni : 0 < n - i := by omega
    have hln : o + i < o + n + S.length := by omega
    (repeat (first | with_reducible (first | refine WL.seq ?_ | refine WL.skip ?_ | refine WL.label ?_ | refine WL.block ?_ | refine WL.scope ?_ | refine WL.nilS ?_ | refine WL.reS ?_ | refine WL.exS ?_ | refine WL.nilB ?_ | refine WL.nilT ?_ | refine WL.exit ?_ | refine WL.ret ?_ | refine WL.exT ?_ | refine WL.exB ?_ | refine WL.exN rfl ?_ | refine WL.reT ?_ | refine WL.reB ?_) | ((first | refine WL.reg rfl ?_ | refine WL.regT zai rfl ?_); (conv => { arg 3; simp [prep, prep1] }); (repeat (first | (refine zae ?_ ?_; (focus (simp; done)); (conv => { arg 4; simp (disch := omega) [hf0, hst, rk, hni, hkn, hneI, hne, w32] }); (first | (first | refine zaa ?_ | (refine zac ?_; (conv => { arg 5; simp }))) | (refine zal true rfl rfl ⟨_, Tryz.func155, rfl, rfl⟩ ?_; (conv => { arg 6; simp (disch := omega) [hf0, hst, rk, hni, hkn, hneI, hne, w32] }); refine zaf (cZ) rfl ?_; (conv => { arg 5; simp (disch := omega) [hf0, hst, rk, hni, hkn, hneI, hne, w32] })))) | (refine zab rfl ?_ ?_; (focus (simp; done))))); with_reducible refine zad ?_; (first | refine ⟨rfl, ?_⟩ | refine ⟨by simp [quietB], by simp [quietU], ?_⟩ | skip)) | (refine WL.cond ?_; (conv => { arg 1; simp (disch := omega) [hf0, hst, rk, hni, hkn, hneI, hne, w32] }); with_reducible (first | refine zaj ?_ | refine zak ?_ | refine zag (by omega) ?_ | refine zah (by omega) ?_))))
    (first | refine WL.reg rfl ?_ | refine WL.regT zai rfl ?_); (conv => { arg 3; simp [prep, prep1] }); (repeat (first | (refine zae ?_ ?_; (focus (simp; done)); (conv => { arg 4; simp (disch := omega) [hf0, hf4, hst, rk, hni] }); (first | (first | refine zaa ?_ | (refine zac ?_; (conv => { arg 5; simp }))))) | (refine zab rfl ?_ ?_; (focus (simp; done)))))
    refine zbu [⟨0, 0, 0⟩] [] [] true cD ⟨_, Tryz.func156, rfl, rfl⟩ rfl rfl rfl (by simp (disch := omega) [hf0, hst, idx]) (by simp (disch := omega) [hst, idx]) (by simp) (by simp) ?_; (conv => { arg 5; simp (disch := omega) [idx] })
    (repeat (first | (refine zae ?_ ?_; (focus (simp; done)); (conv => { arg 4; simp (disch := omega) [hf4] }); (first | refine zaa ?_ | (refine zac ?_; (conv => { arg 5; simp })))) | (refine zab rfl ?_ ?_; (focus (simp; done))))); with_reducible refine zad ?_
    (repeat (first | with_reducible (first | refine WL.seq ?_ | refine WL.skip ?_ | refine WL.label ?_ | refine WL.block ?_ | refine WL.scope ?_ | refine WL.nilS ?_ | refine WL.reS ?_ | refine WL.exS ?_ | refine WL.nilB ?_ | refine WL.nilT ?_ | refine WL.exit ?_ | refine WL.ret ?_ | refine WL.exT ?_ | refine WL.exB ?_ | refine WL.exN rfl ?_ | refine WL.reT ?_ | refine WL.reB ?_) | ((first | refine WL.reg rfl ?_ | refine WL.regT zai rfl ?_); (conv => { arg 3; simp [prep, prep1] }); (repeat (first | (refine zae ?_ ?_; (focus (simp; done)); (conv => { arg 4; simp (disch := omega)  }); (first | (first | refine zaa ?_ | (refine zac ?_; (conv => { arg 5; simp }))))) | (refine zab rfl ?_ ?_; (focus (simp; done))))); with_reducible refine zad ?_; (first | refine ⟨rfl, ?_⟩ | refine ⟨by simp [quietB], by simp [quietU], ?_⟩ | skip)) | (refine WL.cond ?_; (conv => { arg 1; simp (disch := omega)  }); with_reducible (first | refine zaj ?_ | refine zak ?_ | refine zag (by omega) ?_ | refine zah (by omega) ?_))))
    refine ⟨[⟨0, 0, 0⟩], ?_⟩
    simp (disch := omega) [idx]
theorem refDbl (a : List Nat) (times : Nat) (ha : wf a) (hla : a.length ≤ 274877906944) (ht : times ≤ 1099511627776) : CallOk Tryz.prog 112 [wl a, .int .i64 times] [] (wl (nw (val a * 2 ^ times))) [] := by
  have e1 : (times : Int).tdiv 32 = ((times / 32 : Nat) : Int) := rfl
  have e2 : (times : Int).tmod 32 = ((times % 32 : Nat) : Int) := rfl
  have hr : times % 32 < 32 := Nat.mod_lt _ (by decide)
  have hq : times / 32 ≤ 34359738368 := by omega
  have htt : times = 32 * (times / 32) + times % 32 := by omega
  have hp32 : 2 ^ (times % 32) < 4294967296 := Nat.lt_of_lt_of_le (Nat.pow_lt_pow_right (by decide) hr) (by decide)
  have hv : val (List.replicate (times / 32) 0 ++ a) * val [2 ^ (times % 32)] = val a * 2 ^ times := by
    rw [zdn, zce, List.length_replicate, zom, Nat.zero_add]
    simp only [val, Nat.mul_zero, Nat.add_zero]
    conv => rhs; rw [htt, Nat.pow_add]
    simp only [Nat.mul_comm, Nat.mul_left_comm, Nat.mul_assoc]
  have cM := zgu (List.replicate (times / 32) 0 ++ a) [2 ^ (times % 32)] (zir (zck _) ha) (by intro x hx; simp at hx; omega) (by simp; omega)
  rw [hv] at cM
  have hmn : min (times % 32) 32 = times % 32 := by omega
  have e3 : (2 : Int) ^ (times % 32) = ((2 ^ (times % 32) : Nat) : Int) := by simp
  have hrep : List.replicate (times / 32) (PV.int IntKind.u32 0) = ws (List.replicate (times / 32) 0) := by simp [ws]
  generalize times % 32 = r at *
  generalize times / 32 = q at *
  generalize 2 ^ r = P at *
  have e4 : (P : Int) % 4294967296 = P := by omega
  have hnn : ¬ (r : Int) < 0 := by omega
  have hwa : ws (List.replicate q 0) ++ ws a = ws (List.replicate q 0 ++ a) := by simp [ws]
  have hL : (ws (List.replicate q 0)).take q = ws (List.replicate q 0) := List.take_of_length_le (by simp [ws])
  have hlen : (List.replicate q 0 ++ a).length = q + a.length := by simp
  have hL2 : (ws (List.replicate q 0 ++ a)).take (q + a.length) = ws (List.replicate q 0 ++ a) := List.take_of_length_le (by simp [ws])
  have hl3 : (ws (List.replicate q 0 ++ a)).length = q + a.length := by simp [ws]
  simp only [wl, hlen] at cM
  have hw1 : ws [P] = [.int .u32 (P : Int)] := by simp [ws, w32]
  rw [hw1] at cM
  have hz3 : (ws (List.replicate q 0)).length = q := by simp [ws]
  generalize ws (List.replicate q 0 ++ a) = Z at *
  refine CallOk.of_wl Tryz.func112 rfl rfl rfl (Nat.le_of_ble_eq_true rfl) ?_
  (repeat (first | with_reducible (first | refine WL.seq ?_ | refine WL.skip ?_ | refine WL.label ?_ | refine WL.block ?_ | refine WL.scope ?_ | refine WL.nilS ?_ | refine WL.reS ?_ | refine WL.exS ?_ | refine WL.nilB ?_ | refine WL.nilT ?_ | refine WL.exit ?_ | refine WL.ret ?_ | refine WL.exT ?_ | refine WL.exB ?_ | refine WL.exN rfl ?_ | refine WL.reT ?_ | refine WL.reB ?_) | ((first | refine WL.reg rfl ?_ | refine WL.regT zai rfl ?_); (conv => { arg 3; simp [prep, prep1] }); (repeat (first | (refine zae ?_ ?_; (focus (simp; done)); (conv => { arg 4; simp (disch := omega) [wl, e1, hrep, hL, hwa, hz3] }); (first | (first | refine zaa ?_ | (refine zac ?_; (conv => { arg 5; simp }))))) | (refine zab rfl ?_ ?_; (focus (simp; done))))); with_reducible refine zad ?_; (first | refine ⟨rfl, ?_⟩ | refine ⟨by simp [quietB], by simp [quietU], ?_⟩ | skip)) | (refine WL.cond ?_; (conv => { arg 1; simp (disch := omega) [wl, e1, hrep, hL, hwa, hz3] }); with_reducible (first | refine zaj ?_ | refine zak ?_ | refine zag (by omega) ?_ | refine zah (by omega) ?_))))
  (repeat (first | with_reducible (first | refine WL.seq ?_ | refine WL.skip ?_ | refine WL.label ?_ | refine WL.block ?_ | refine WL.scope ?_ | refine WL.nilS ?_ | refine WL.reS ?_ | refine WL.exS ?_ | refine WL.nilB ?_ | refine WL.nilT ?_ | refine WL.exit ?_ | refine WL.ret ?_ | refine WL.exT ?_ | refine WL.exB ?_ | refine WL.exN rfl ?_ | refine WL.reT ?_ | refine WL.reB ?_) | ((first | refine WL.reg rfl ?_ | refine WL.regT zai rfl ?_); (conv => { arg 3; simp [prep, prep1] }); (repeat (first | (refine zae ?_ ?_; (focus (simp; done)); (conv => { arg 4; simp (disch := omega) [e2, e3, e4, hmn, hnn, hL2, hl3] }); (first | (first | refine zaa ?_ | (refine zac ?_; (conv => { arg 5; simp }))) | (refine zal true rfl rfl ⟨_, Tryz.func137, rfl, rfl⟩ ?_; (conv => { arg 6; simp (disch := omega) [e2, e3, e4, hmn, hnn, hL2, hl3] }); refine zaf (cM) rfl ?_; (conv => { arg 5; simp (disch := omega) [e2, e3, e4, hmn, hnn, hL2, hl3] })))) | (refine zab rfl ?_ ?_; (focus (simp; done))))); with_reducible refine zad ?_; (first | refine ⟨rfl, ?_⟩ | refine ⟨by simp [quietB], by simp [quietU], ?_⟩ | skip)) | (refine WL.cond ?_; (conv => { arg 1; simp (disch := omega) [e2, e3, e4, hmn, hnn, hL2, hl3] }); with_reducible (first | refine zaj ?_ | refine zak ?_ | refine zag (by omega) ?_ | refine zah (by omega) ?_))))
  refine ⟨[], ?_⟩
  simp (disch := omega) 
theorem zqz (a : List Nat) (hl : a.length ≤ 4398046511104) : CallOk Tryz.prog 69 [wl a] [] (.bool (decide (a = [1]))) [] := by
  match a, hl with
  | [], _ =>
    refine CallOk.of_wl Tryz.func69 rfl rfl rfl (Nat.le_of_ble_eq_true rfl) ?_
    (repeat (first | with_reducible (first | refine WL.seq ?_ | refine WL.skip ?_ | refine WL.label ?_ | refine WL.block ?_ | refine WL.scope ?_ | refine WL.nilS ?_ | refine WL.reS ?_ | refine WL.exS ?_ | refine WL.nilB ?_ | refine WL.nilT ?_ | refine WL.exit ?_ | refine WL.ret ?_ | refine WL.exT ?_ | refine WL.exB ?_ | refine WL.exN rfl ?_ | refine WL.reT ?_ | refine WL.reB ?_) | ((first | refine WL.reg rfl ?_ | refine WL.regT zai rfl ?_); (conv => { arg 3; simp [prep, prep1] }); (repeat (first | (refine zae ?_ ?_; (focus (simp; done)); (conv => { arg 4; simp (disch := omega) [wl, ws] }); (first | (first | refine zaa ?_ | (refine zac ?_; (conv => { arg 5; simp }))))) | (refine zab rfl ?_ ?_; (focus (simp; done))))); with_reducible refine zad ?_; (first | refine ⟨rfl, ?_⟩ | refine ⟨by simp [quietB], by simp [quietU], ?_⟩ | skip)) | (refine WL.cond ?_; (conv => { arg 1; simp (disch := omega) [wl, ws] }); with_reducible (first | refine zaj ?_ | refine zak ?_ | refine zag (by omega) ?_ | refine zah (by omega) ?_))))
    refine ⟨[], ?_⟩
    simp (disch := omega) 
  | [x], _ =>
    have e : decide ([x] = [1]) = decide ((x : Int) = 1) := decide_eq_decide.2 (by simp; omega)
    rw [e]
    refine CallOk.of_wl Tryz.func69 rfl rfl rfl (Nat.le_of_ble_eq_true rfl) ?_
    (repeat (first | with_reducible (first | refine WL.seq ?_ | refine WL.skip ?_ | refine WL.label ?_ | refine WL.block ?_ | refine WL.scope ?_ | refine WL.nilS ?_ | refine WL.reS ?_ | refine WL.exS ?_ | refine WL.nilB ?_ | refine WL.nilT ?_ | refine WL.exit ?_ | refine WL.ret ?_ | refine WL.exT ?_ | refine WL.exB ?_ | refine WL.exN rfl ?_ | refine WL.reT ?_ | refine WL.reB ?_) | ((first | refine WL.reg rfl ?_ | refine WL.regT zai rfl ?_); (conv => { arg 3; simp [prep, prep1] }); (repeat (first | (refine zae ?_ ?_; (focus (simp; done)); (conv => { arg 4; simp (disch := omega) [wl, ws, w32] }); (first | (first | refine zaa ?_ | (refine zac ?_; (conv => { arg 5; simp }))))) | (refine zab rfl ?_ ?_; (focus (simp; done))))); with_reducible refine zad ?_; (first | refine ⟨rfl, ?_⟩ | refine ⟨by simp [quietB], by simp [quietU], ?_⟩ | skip)) | (refine WL.cond ?_; (conv => { arg 1; simp (disch := omega) [wl, ws, w32] }); with_reducible (first | refine zaj ?_ | refine zak ?_ | refine zag (by omega) ?_ | refine zah (by omega) ?_))))
    refine ⟨[], ?_⟩
    simp (disch := omega) 
  | x :: y :: r, hl =>
    have h1 : ¬ (((r.length + 1 + 1 : Nat) : Int) = 1) := by omega
    have h2 : ¬ ((r.length : Int) + 1 + 1 = 1) := by omega
    refine CallOk.of_wl Tryz.func69 rfl rfl rfl (Nat.le_of_ble_eq_true rfl) ?_
    (repeat (first | with_reducible (first | refine WL.seq ?_ | refine WL.skip ?_ | refine WL.label ?_ | refine WL.block ?_ | refine WL.scope ?_ | refine WL.nilS ?_ | refine WL.reS ?_ | refine WL.exS ?_ | refine WL.nilB ?_ | refine WL.nilT ?_ | refine WL.exit ?_ | refine WL.ret ?_ | refine WL.exT ?_ | refine WL.exB ?_ | refine WL.exN rfl ?_ | refine WL.reT ?_ | refine WL.reB ?_) | ((first | refine WL.reg rfl ?_ | refine WL.regT zai rfl ?_); (conv => { arg 3; simp [prep, prep1] }); (repeat (first | (refine zae ?_ ?_; (focus (simp; done)); (conv => { arg 4; simp (disch := omega) [wl, ws, w32, h1, h2] }); (first | (first | refine zaa ?_ | (refine zac ?_; (conv => { arg 5; simp }))))) | (refine zab rfl ?_ ?_; (focus (simp; done))))); with_reducible refine zad ?_; (first | refine ⟨rfl, ?_⟩ | refine ⟨by simp [quietB], by simp [quietU], ?_⟩ | skip)) | (refine WL.cond ?_; (conv => { arg 1; simp (disch := omega) [wl, ws, w32, h1, h2] }); with_reducible (first | refine zaj ?_ | refine zak ?_ | refine zag (by omega) ?_ | refine zah (by omega) ?_))))
    refine ⟨[], ?_⟩
    simp (disch := omega) 
theorem zpq (a g : List Nat) (ha : wf a) (hg : wf g) (h0 : 0 < val g) (hla : a.length ≤ 274877906944) (hlg : g.length ≤ 274877906944) :
    CallOk Tryz.prog 71 [wl a, wl g] [] (wl (nw (val a / val g))) [] := by
  have c1 := zqz g (by omega)
  have c2 := zdp a ha (by omega)
  have c3 := refDiv a g ha hg hla hlg h0
  by_cases h : g = [1]
  · have e : val a / val g = val a := by rw [h]; simp [val]
    rw [decide_eq_true h] at c1
    rw [e]
    refine CallOk.of_wl Tryz.func71 rfl rfl rfl (Nat.le_of_ble_eq_true rfl) ?_
    (repeat (first | with_reducible (first | refine WL.seq ?_ | refine WL.skip ?_ | refine WL.label ?_ | refine WL.block ?_ | refine WL.scope ?_ | refine WL.nilS ?_ | refine WL.reS ?_ | refine WL.exS ?_ | refine WL.nilB ?_ | refine WL.nilT ?_ | refine WL.exit ?_ | refine WL.ret ?_ | refine WL.exT ?_ | refine WL.exB ?_ | refine WL.exN rfl ?_ | refine WL.reT ?_ | refine WL.reB ?_) | ((first | refine WL.reg rfl ?_ | refine WL.regT zai rfl ?_); (conv => { arg 3; simp [prep, prep1] }); (repeat (first | (refine zae ?_ ?_; (focus (simp; done)); (conv => { arg 4; simp (disch := omega) [wl] }); (first | (first | refine zaa ?_ | (refine zac ?_; (conv => { arg 5; simp }))) | ((first | refine zal true rfl rfl ⟨_, Tryz.func69, rfl, rfl⟩ ?_ | refine zal true rfl rfl ⟨_, Tryz.func68, rfl, rfl⟩ ?_); (conv => { arg 6; simp (disch := omega) [wl] }); (first | refine zaf (c1) rfl ?_ | refine zaf (c2) rfl ?_); (conv => { arg 5; simp (disch := omega) [wl] })))) | (refine zab rfl ?_ ?_; (focus (simp; done))))); with_reducible refine zad ?_; (first | refine ⟨rfl, ?_⟩ | refine ⟨by simp [quietB], by simp [quietU], ?_⟩ | skip)) | (refine WL.cond ?_; (conv => { arg 1; simp (disch := omega) [wl] }); with_reducible (first | refine zaj ?_ | refine zak ?_ | refine zag (by omega) ?_ | refine zah (by omega) ?_))))
    refine ⟨[], ?_⟩
    simp (disch := omega) 
  · rw [decide_eq_false h] at c1
    refine CallOk.of_wl Tryz.func71 rfl rfl rfl (Nat.le_of_ble_eq_true rfl) ?_
    (repeat (first | with_reducible (first | refine WL.seq ?_ | refine WL.skip ?_ | refine WL.label ?_ | refine WL.block ?_ | refine WL.scope ?_ | refine WL.nilS ?_ | refine WL.reS ?_ | refine WL.exS ?_ | refine WL.nilB ?_ | refine WL.nilT ?_ | refine WL.exit ?_ | refine WL.ret ?_ | refine WL.exT ?_ | refine WL.exB ?_ | refine WL.exN rfl ?_ | refine WL.reT ?_ | refine WL.reB ?_) | ((first | refine WL.reg rfl ?_ | refine WL.regT zai rfl ?_); (conv => { arg 3; simp [prep, prep1] }); (repeat (first | (refine zae ?_ ?_; (focus (simp; done)); (conv => { arg 4; simp (disch := omega) [wl] }); (first | (first | refine zaa ?_ | (refine zac ?_; (conv => { arg 5; simp }))) | ((first | refine zal true rfl rfl ⟨_, Tryz.func69, rfl, rfl⟩ ?_ | refine zal true rfl rfl ⟨_, Tryz.func113, rfl, rfl⟩ ?_); (conv => { arg 6; simp (disch := omega) [wl] }); (first | refine zaf (c1) rfl ?_ | refine zaf (c3) rfl ?_); (conv => { arg 5; simp (disch := omega) [wl] })))) | (refine zab rfl ?_ ?_; (focus (simp; done))))); with_reducible refine zad ?_; (first | refine ⟨rfl, ?_⟩ | refine ⟨by simp [quietB], by simp [quietU], ?_⟩ | skip)) | (refine WL.cond ?_; (conv => { arg 1; simp (disch := omega) [wl] }); with_reducible (first | refine zaj ?_ | refine zak ?_ | refine zag (by omega) ?_ | refine zah (by omega) ?_))))
    refine ⟨[], ?_⟩
    simp (disch := omega) 
theorem zob {X Y : Nat} (hX : X % 2 = 1) (hY : Y % 2 = 1) (h : Y < X) : oddP (X - Y) % 2 = 1 ∧ Nat.gcd (oddP (X - Y)) Y = Nat.gcd X Y ∧ oddP (X - Y) + Y < X + Y := by
  have h0 : X - Y ≠ 0 := by omega
  refine ⟨zcs h0, ?_, ?_⟩
  · rw [gcd_oddP hY]; exact Nat.gcd_sub_self_left (by omega)
  · have := zmp (X - Y); omega
set_option maxHeartbeats 4000000 in
theorem refGcd (a b : List Nat) (ha : wf a) (hb : wf b) (hla : a.length ≤ 34359738368) (hlb : b.length ≤ 34359738368) : CallOk Tryz.prog 70 [wl a, wl b] [] (wl (nw (Nat.gcd (val a) (val b)))) [] := by
  have c1 := znp a ha (by omega)
  have c2 := znp b hb (by omega)
  have hn1 := zao ha
  have hn2 := zao hb
  by_cases ha0 : val a = 0
  · rw [ha0, zaw] at c1
    rw [ha0, Nat.gcd_zero_left]
    have hall : (ws (nw (val b))).take (nw (val b)).length = ws (nw (val b)) := zbc _
    simp only [ws, List.map_nil, List.length_nil] at c1
    generalize nw (val b) = B at *
    refine CallOk.of_wl Tryz.func70 rfl rfl rfl (Nat.le_of_ble_eq_true rfl) ?_
    (repeat (first | with_reducible (first | refine WL.seq ?_ | refine WL.skip ?_ | refine WL.label ?_ | refine WL.block ?_ | refine WL.scope ?_ | refine WL.nilS ?_ | refine WL.reS ?_ | refine WL.exS ?_ | refine WL.nilB ?_ | refine WL.nilT ?_ | refine WL.exit ?_ | refine WL.ret ?_ | refine WL.exT ?_ | refine WL.exB ?_ | refine WL.exN rfl ?_ | refine WL.reT ?_ | refine WL.reB ?_) | ((first | refine WL.reg rfl ?_ | refine WL.regT zai rfl ?_); (conv => { arg 3; simp [prep, prep1] }); (repeat (first | (refine zae ?_ ?_; (focus (simp; done)); (conv => { arg 4; simp (disch := omega) [hall] }); (first | (first | refine zaa ?_ | (refine zac ?_; (conv => { arg 5; simp }))) | (refine zal true rfl rfl ⟨_, Tryz.func68, rfl, rfl⟩ ?_; (conv => { arg 6; simp (disch := omega) [hall] }); (first | refine zaf (c1) rfl ?_ | refine zaf (c2) rfl ?_); (conv => { arg 5; simp (disch := omega) [hall] })))) | (refine zab rfl ?_ ?_; (focus (simp; done))))); with_reducible refine zad ?_; (first | refine ⟨rfl, ?_⟩ | refine ⟨by simp [quietB], by simp [quietU], ?_⟩ | skip)) | (refine WL.cond ?_; (conv => { arg 1; simp (disch := omega) [hall] }); with_reducible (first | refine zaj ?_ | refine zak ?_ | refine zag (by omega) ?_ | refine zah (by omega) ?_))))
    refine ⟨[], ?_⟩
    simp (disch := omega) [hall, wl]
  have hA1 : (nw (val a)).length ≠ 0 := fun h => ha0 (zdi h)
  by_cases hb0 : val b = 0
  · rw [hb0, zaw] at c2
    rw [hb0, Nat.gcd_zero_right]
    have hall : (ws (nw (val a))).take (nw (val a)).length = ws (nw (val a)) := zbc _
    simp only [ws, List.map_nil, List.length_nil] at c2
    change CallOk _ _ _ _ _ [⟨1, true, true, ws (nw (val a))⟩] at c1
    have hA2 : ¬ nw (val a) = [] := fun h => hA1 (by rw [h]; rfl)
    generalize nw (val a) = A at *
    refine CallOk.of_wl Tryz.func70 rfl rfl rfl (Nat.le_of_ble_eq_true rfl) ?_
    (repeat (first | with_reducible (first | refine WL.seq ?_ | refine WL.skip ?_ | refine WL.label ?_ | refine WL.block ?_ | refine WL.scope ?_ | refine WL.nilS ?_ | refine WL.reS ?_ | refine WL.exS ?_ | refine WL.nilB ?_ | refine WL.nilT ?_ | refine WL.exit ?_ | refine WL.ret ?_ | refine WL.exT ?_ | refine WL.exB ?_ | refine WL.exN rfl ?_ | refine WL.reT ?_ | refine WL.reB ?_) | ((first | refine WL.reg rfl ?_ | refine WL.regT zai rfl ?_); (conv => { arg 3; simp [prep, prep1] }); (repeat (first | (refine zae ?_ ?_; (focus (simp; done)); (conv => { arg 4; simp (disch := omega) [hall, hA1, hA2] }); (first | (first | refine zaa ?_ | (refine zac ?_; (conv => { arg 5; simp }))) | (refine zal true rfl rfl ⟨_, Tryz.func68, rfl, rfl⟩ ?_; (conv => { arg 6; simp (disch := omega) [hall, hA1, hA2] }); (first | refine zaf (c1) rfl ?_ | refine zaf (c2) rfl ?_); (conv => { arg 5; simp (disch := omega) [hall, hA1, hA2] })))) | (refine zab rfl ?_ ?_; (focus (simp; done))))); with_reducible refine zad ?_; (first | refine ⟨rfl, ?_⟩ | refine ⟨by simp [quietB], by simp [quietU], ?_⟩ | skip)) | (refine WL.cond ?_; (conv => { arg 1; simp (disch := omega) [hall, hA1, hA2] }); with_reducible (first | refine zaj ?_ | refine zak ?_ | refine zag (by omega) ?_ | refine zah (by omega) ?_))))
    refine ⟨[], ?_⟩
    simp (disch := omega) [hall, wl]
  have hB1 : (nw (val b)).length ≠ 0 := fun h => hb0 (zdi h)
  have hA2 : ¬ nw (val a) = [] := fun h => hA1 (by rw [h]; rfl)
  have hB2 : ¬ nw (val b) = [] := fun h => hB1 (by rw [h]; rfl)
  obtain ⟨o1, P1, S1, p1, p2, cO1⟩ := zno 1 0 (nw (val a)).length [] (nw (val a)) [] rfl rfl (zaq _) (by rw [zam]; exact ha0) (by simp; omega)
  obtain ⟨o2, P2, S2, r1, r2, cO2⟩ := zno 1 0 (nw (val b)).length [] (nw (val b)) [] rfl rfl (zaq _) (by rw [zam]; exact hb0) (by simp; omega)
  rw [zam] at cO1 cO2 p2 r2
  simp only [List.nil_append, List.append_nil] at cO1 cO2
  have hparts := gcd_parts ha0 hb0
  have hodd1 := zcs ha0
  have hodd2 := zcs hb0
  have ht1 : tz (val a) ≤ 32 * a.length := by
    have h1 := zei (val a)
    have h2 := zhb ha0
    have h3 := zax ha
    rw [zom] at h3
    have h4 : 1 * 2 ^ tz (val a) ≤ oddP (val a) * 2 ^ tz (val a) := Nat.mul_le_mul_right _ h2
    have h5 : 2 ^ tz (val a) < 2 ^ (32 * a.length) := by omega
    have := (Nat.pow_lt_pow_iff_right (by decide : 1 < 2)).1 h5
    omega
  have hmin : (if tz (val b) < tz (val a) then (tz (val b) : Int) else (tz (val a) : Int)) = ((min (tz (val a)) (tz (val b)) : Nat) : Int) := by split <;> omega
  have hmin2 : min (tz (val a)) (tz (val b)) ≤ 32 * a.length := by omega
  have hlx : (nw (oddP (val a))).length ≤ (nw (val a)).length := zat (zmp _)
  have hly : (nw (oddP (val b))).length ≤ (nw (val b)).length := zat (zmp _)
  have hG : ∀ z, z = Nat.gcd (oddP (val a)) (oddP (val b)) → CallOk Tryz.prog 112 [wl (nw z), .int .i64 ((min (tz (val a)) (tz (val b)) : Nat) : Int)] [] (wl (nw (Nat.gcd (val a) (val b)))) [] := fun z hz => by
    have hzl : (nw z).length ≤ 274877906944 := by
      have : z ≤ oddP (val a) := by rw [hz]; exact Nat.le_of_dvd (zhb ha0) (Nat.gcd_dvd_left _ _)
      have := zat this
      omega
    have := refDbl (nw z) (min (tz (val a)) (tz (val b))) (zaq _) hzl (by omega)
    rw [zam, hz, hparts] at this
    rw [hz]; exact this
  generalize hX0 : oddP (val a) = X0 at *
  generalize hY0 : oddP (val b) = Y0 at *
  generalize min (tz (val a)) (tz (val b)) = M at *
  generalize tz (val a) = T1 at *
  generalize tz (val b) = T2 at *
  generalize Nat.gcd (val a) (val b) = G at *
  have hlA : (nw (val a)).length ≤ 68719476736 := by omega
  have hlB : (nw (val b)).length ≤ 68719476736 := by omega
  simp only [List.length_nil] at p2 r2
  clear ha0 hb0 hn1 hn2 ht1 hparts hlx hly hmin2
  generalize nw (val a) = NA at *
  generalize nw (val b) = NB at *
  refine CallOk.of_wl Tryz.func70 rfl rfl rfl (Nat.le_of_ble_eq_true rfl) ?_
  (repeat (first | with_reducible (first | refine WL.seq ?_ | refine WL.skip ?_ | refine WL.label ?_ | refine WL.block ?_ | refine WL.scope ?_ | refine WL.nilS ?_ | refine WL.reS ?_ | refine WL.exS ?_ | refine WL.nilB ?_ | refine WL.nilT ?_ | refine WL.exit ?_ | refine WL.ret ?_ | refine WL.exT ?_ | refine WL.exB ?_ | refine WL.exN rfl ?_ | refine WL.reT ?_ | refine WL.reB ?_) | ((first | refine WL.reg rfl ?_ | refine WL.regT zai rfl ?_); (conv => { arg 3; simp [prep, prep1] }); (repeat (first | (refine zae ?_ ?_; (focus (simp; done)); (conv => { arg 4; simp (disch := omega) [hA1, hB1, hA2, hB2] }); (first | (first | refine zaa ?_ | (refine zac ?_; (conv => { arg 5; simp }))) | (refine zal true rfl rfl ⟨_, Tryz.func68, rfl, rfl⟩ ?_; (conv => { arg 6; simp (disch := omega) [hA1, hB1, hA2, hB2] }); (first | refine zaf (c1) rfl ?_ | refine zaf (c2) rfl ?_); (conv => { arg 5; simp (disch := omega) [hA1, hB1, hA2, hB2] })))) | (refine zab rfl ?_ ?_; (focus (simp; done))))); with_reducible refine zad ?_; (first | refine ⟨rfl, ?_⟩ | refine ⟨by simp [quietB], by simp [quietU], ?_⟩ | skip)) | (refine WL.cond ?_; (conv => { arg 1; simp (disch := omega) [hA1, hB1, hA2, hB2] }); with_reducible (first | refine zaj ?_ | refine zak ?_ | refine zag (by omega) ?_ | refine zah (by omega) ?_))))
  (first | refine WL.reg rfl ?_ | refine WL.regT zai rfl ?_); (conv => { arg 3; simp [prep, prep1] }); (repeat (first | (refine zae ?_ ?_; (focus (simp; done)); (conv => { arg 4; simp (disch := omega)  }); (first | (first | refine zaa ?_ | (refine zac ?_; (conv => { arg 5; simp }))))) | (refine zab rfl ?_ ?_; (focus (simp; done)))))
  refine zbu [⟨12, 0, 0⟩] [] [] true cO1 ⟨_, Tryz.func109, rfl, rfl⟩ rfl rfl rfl (by simp (disch := omega) [idx]) (by simp (disch := omega) [idx]) (by simp) (by simp) ?_; (conv => { arg 5; simp (disch := omega) [idx] })
  (repeat (first | (refine zae ?_ ?_; (focus (simp; done)); (conv => { arg 4; simp (disch := omega)  }); (first | refine zaa ?_ | (refine zac ?_; (conv => { arg 5; simp })))) | (refine zab rfl ?_ ?_; (focus (simp; done))))); with_reducible refine zad ?_
  (repeat (first | with_reducible (first | refine WL.seq ?_ | refine WL.skip ?_ | refine WL.label ?_ | refine WL.block ?_ | refine WL.scope ?_ | refine WL.nilS ?_ | refine WL.reS ?_ | refine WL.exS ?_ | refine WL.nilB ?_ | refine WL.nilT ?_ | refine WL.exit ?_ | refine WL.ret ?_ | refine WL.exT ?_ | refine WL.exB ?_ | refine WL.exN rfl ?_ | refine WL.reT ?_ | refine WL.reB ?_) | ((first | refine WL.reg rfl ?_ | refine WL.regT zai rfl ?_); (conv => { arg 3; simp [prep, prep1] }); (repeat (first | (refine zae ?_ ?_; (focus (simp; done)); (conv => { arg 4; simp (disch := omega)  }); (first | (first | refine zaa ?_ | (refine zac ?_; (conv => { arg 5; simp }))))) | (refine zab rfl ?_ ?_; (focus (simp; done))))); with_reducible refine zad ?_; (first | refine ⟨rfl, ?_⟩ | refine ⟨by simp [quietB], by simp [quietU], ?_⟩ | skip)) | (refine WL.cond ?_; (conv => { arg 1; simp (disch := omega)  }); with_reducible (first | refine zaj ?_ | refine zak ?_ | refine zag (by omega) ?_ | refine zah (by omega) ?_))))
  (first | refine WL.reg rfl ?_ | refine WL.regT zai rfl ?_); (conv => { arg 3; simp [prep, prep1] }); (repeat (first | (refine zae ?_ ?_; (focus (simp; done)); (conv => { arg 4; simp (disch := omega)  }); (first | (first | refine zaa ?_ | (refine zac ?_; (conv => { arg 5; simp }))))) | (refine zab rfl ?_ ?_; (focus (simp; done)))))
  refine zbu [⟨14, 0, 0⟩] [] [] true cO2 ⟨_, Tryz.func109, rfl, rfl⟩ rfl rfl rfl (by simp (disch := omega) [idx]) (by simp (disch := omega) [idx]) (by simp) (by simp) ?_; (conv => { arg 5; simp (disch := omega) [idx] })
  (repeat (first | (refine zae ?_ ?_; (focus (simp; done)); (conv => { arg 4; simp (disch := omega)  }); (first | refine zaa ?_ | (refine zac ?_; (conv => { arg 5; simp })))) | (refine zab rfl ?_ ?_; (focus (simp; done))))); with_reducible refine zad ?_
  (repeat (first | with_reducible (first | refine WL.seq ?_ | refine WL.skip ?_ | refine WL.label ?_ | refine WL.block ?_ | refine WL.scope ?_ | refine WL.nilS ?_ | refine WL.reS ?_ | refine WL.exS ?_ | refine WL.nilB ?_ | refine WL.nilT ?_ | refine WL.exit ?_ | refine WL.ret ?_ | refine WL.exT ?_ | refine WL.exB ?_ | refine WL.exN rfl ?_ | refine WL.reT ?_ | refine WL.reB ?_) | ((first | refine WL.reg rfl ?_ | refine WL.regT zai rfl ?_); (conv => { arg 3; simp [prep, prep1] }); (repeat (first | (refine zae ?_ ?_; (focus (simp; done)); (conv => { arg 4; simp (disch := omega)  }); (first | (first | refine zaa ?_ | (refine zac ?_; (conv => { arg 5; simp }))))) | (refine zab rfl ?_ ?_; (focus (simp; done))))); with_reducible refine zad ?_; (first | refine ⟨rfl, ?_⟩ | refine ⟨by simp [quietB], by simp [quietU], ?_⟩ | skip)) | (refine WL.cond ?_; (conv => { arg 1; simp (disch := omega)  }); with_reducible (first | refine zaj ?_ | refine zak ?_ | refine zag (by omega) ?_ | refine zah (by omega) ?_))))
  refine WL.loop (fun m s => ∃ (X Y ox oy : Nat) (PX SX PY SY : List Nat) (ix iy : Id), m = X + Y ∧ X % 2 = 1 ∧ Y % 2 = 1 ∧ Nat.gcd X Y = Nat.gcd X0 Y0 ∧ ((ix = ⟨12, 0, 0⟩ ∧ iy = ⟨14, 0, 0⟩) ∨ (ix = ⟨14, 0, 0⟩ ∧ iy = ⟨12, 0, 0⟩)) ∧
      s.frame 5 = .sl ix 1 ox (nw X).length 1 ∧ s.frame 6 = .sl iy 1 oy (nw Y).length 1 ∧ s.frame 7 = .int .i64 T1 ∧ s.frame 8 = .int .i64 T2 ∧
      s.store ix = some ⟨1, true, true, ws (PX ++ (nw X ++ SX))⟩ ∧ s.store iy = some ⟨1, true, true, ws (PY ++ (nw Y ++ SY))⟩ ∧
      PX.length = ox ∧ PY.length = oy ∧ ox + (nw X).length + SX.length ≤ 68719476736 ∧ oy + (nw Y).length + SY.length ≤ 68719476736) (X0 + Y0) ?_ ?_
  · exact ⟨X0, Y0, o1, o2, P1, S1, P2, S2, ⟨12, 0, 0⟩, ⟨14, 0, 0⟩, rfl, hodd1, hodd2, rfl, .inl ⟨rfl, rfl⟩, by simp, by simp, by simp, by simp, by simp, by simp, p1, r1, by omega, by omega⟩
  clear c1 c2 cO1 cO2
  rintro m ⟨f, σ, g⟩ ⟨X, Y, ox, oy, PX, SX, PY, SY, ix, iy, rfl, hX, hY, hgcd, hid, h5, h6, h7, h8, hsX, hsY, lPX, lPY, lX, lY⟩
  simp only at h5 h6 h7 h8 hsX hsY
  have cC := zps (nw X) (nw Y) (zaq _) (zaq _) (by omega) (by omega)
  rw [zam, zam] at cC
  have cutX := zmr (S := SX) lPX (rfl : (nw X).length = _)
  have cutY := zmr (S := SY) lPY (rfl : (nw Y).length = _)
  have bX : ox + (nw X).length ≤ PX.length + ((nw X).length + SX.length) := by omega
  have bY : oy + (nw Y).length ≤ PY.length + ((nw Y).length + SY.length) := by omega
  rcases Nat.lt_trichotomy X Y with hlt | heq | hgt
  -- X < Y: they change places
  · have hc : cmpI X Y = -1 := by unfold cmpI; rw [if_pos hlt]
    rw [hc] at cC
    obtain ⟨s1, s2, s3⟩ := zob hY hX hlt
    have cL := znq 1 1 oy ox (nw Y).length (nw X).length PY (nw Y) SY PX (nw X) SX lPY rfl (zaq _) (zaq _) (by omega) lPX rfl (by omega)
    have hlen : (nw X).length ≤ (nw Y).length := zat (by omega)
    have vD := zka (zaq Y) (zaq X) hlen (by rw [zam, zam]; omega)
    rw [zam, zam] at vD
    have lD := zew (nw Y) (nw X) 0
    have wD := zge (nw Y) (nw X) 0
    generalize subL (nw Y) (nw X) 0 = D at *
    obtain ⟨o', P', S', q1, q2, cO⟩ := zno 1 oy (nw Y).length PY D SY lPY lD wD (by rw [vD]; omega) (by omega)
    rw [vD] at cO q2
    have hg2 : Nat.gcd (oddP (Y - X)) X = Nat.gcd X0 Y0 := by rw [s2, Nat.gcd_comm]; exact hgcd
    generalize oddP (Y - X) = Z at *
    rcases hid with ⟨rfl, rfl⟩ | ⟨rfl, rfl⟩
    · (repeat (first | with_reducible (first | refine WL.seq ?_ | refine WL.skip ?_ | refine WL.label ?_ | refine WL.block ?_ | refine WL.scope ?_ | refine WL.nilS ?_ | refine WL.reS ?_ | refine WL.exS ?_ | refine WL.nilB ?_ | refine WL.nilT ?_ | refine WL.exit ?_ | refine WL.ret ?_ | refine WL.exT ?_ | refine WL.exB ?_ | refine WL.exN rfl ?_ | refine WL.reT ?_ | refine WL.reB ?_) | ((first | refine WL.reg rfl ?_ | refine WL.regT zai rfl ?_); (conv => { arg 3; simp [prep, prep1] }); (repeat (first | (refine zae ?_ ?_; (focus (simp; done)); (conv => { arg 4; simp (disch := omega) [h5, h6, hsX, hsY, cutX, cutY, bX, bY] }); (first | (first | refine zaa ?_ | (refine zac ?_; (conv => { arg 5; simp }))) | (refine zal false rfl rfl ⟨_, Tryz.func110, rfl, rfl⟩ ?_; (conv => { arg 6; simp (disch := omega) [h5, h6, hsX, hsY, cutX, cutY, bX, bY] }); refine zaf (cC) rfl ?_; (conv => { arg 5; simp (disch := omega) [h5, h6, hsX, hsY, cutX, cutY, bX, bY] })))) | (refine zab rfl ?_ ?_; (focus (simp; done))))); with_reducible refine zad ?_; (first | refine ⟨rfl, ?_⟩ | refine ⟨by simp [quietB], by simp [quietU], ?_⟩ | skip)) | (refine WL.cond ?_; (conv => { arg 1; simp (disch := omega) [h5, h6, hsX, hsY, cutX, cutY, bX, bY] }); with_reducible (first | refine zaj ?_ | refine zak ?_ | refine zag (by omega) ?_ | refine zah (by omega) ?_))))
      (first | refine WL.reg rfl ?_ | refine WL.regT zai rfl ?_); (conv => { arg 3; simp [prep, prep1] }); (repeat (first | (refine zae ?_ ?_; (focus (simp; done)); (conv => { arg 4; simp (disch := omega) [h5, h6, hsX, hsY] }); (first | (first | refine zaa ?_ | (refine zac ?_; (conv => { arg 5; simp }))))) | (refine zab rfl ?_ ?_; (focus (simp; done)))))
      refine zbu [⟨14, 0, 0⟩, ⟨12, 0, 0⟩] [] [] true cL ⟨_, Tryz.func111, rfl, rfl⟩ rfl rfl rfl (by simp (disch := omega) [h5, h6, hsX, hsY, idx]) (by simp (disch := omega) [hsX, hsY, idx]) (by simp) (by simp) ?_; (conv => { arg 5; simp (disch := omega) [idx] })
      (repeat (first | (refine zae ?_ ?_; (focus (simp; done)); (conv => { arg 4; simp (disch := omega)  }); (first | refine zaa ?_ | (refine zac ?_; (conv => { arg 5; simp })))) | (refine zab rfl ?_ ?_; (focus (simp; done))))); with_reducible refine zad ?_
      (repeat (first | with_reducible (first | refine WL.seq ?_ | refine WL.skip ?_ | refine WL.label ?_ | refine WL.block ?_ | refine WL.scope ?_ | refine WL.nilS ?_ | refine WL.reS ?_ | refine WL.exS ?_ | refine WL.nilB ?_ | refine WL.nilT ?_ | refine WL.exit ?_ | refine WL.ret ?_ | refine WL.exT ?_ | refine WL.exB ?_ | refine WL.exN rfl ?_ | refine WL.reT ?_ | refine WL.reB ?_) | ((first | refine WL.reg rfl ?_ | refine WL.regT zai rfl ?_); (conv => { arg 3; simp [prep, prep1] }); (repeat (first | (refine zae ?_ ?_; (focus (simp; done)); (conv => { arg 4; simp (disch := omega)  }); (first | (first | refine zaa ?_ | (refine zac ?_; (conv => { arg 5; simp }))))) | (refine zab rfl ?_ ?_; (focus (simp; done))))); with_reducible refine zad ?_; (first | refine ⟨rfl, ?_⟩ | refine ⟨by simp [quietB], by simp [quietU], ?_⟩ | skip)) | (refine WL.cond ?_; (conv => { arg 1; simp (disch := omega)  }); with_reducible (first | refine zaj ?_ | refine zak ?_ | refine zag (by omega) ?_ | refine zah (by omega) ?_))))
      (first | refine WL.reg rfl ?_ | refine WL.regT zai rfl ?_); (conv => { arg 3; simp [prep, prep1] }); (repeat (first | (refine zae ?_ ?_; (focus (simp; done)); (conv => { arg 4; simp (disch := omega) [h5, h6, hsX, hsY] }); (first | (first | refine zaa ?_ | (refine zac ?_; (conv => { arg 5; simp }))))) | (refine zab rfl ?_ ?_; (focus (simp; done)))))
      refine zbu [⟨14, 0, 0⟩] [] [] true cO ⟨_, Tryz.func109, rfl, rfl⟩ rfl rfl rfl (by simp (disch := omega) [idx]) (by simp (disch := omega) [idx]) (by simp) (by simp) ?_; (conv => { arg 5; simp (disch := omega) [idx] })
      (repeat (first | (refine zae ?_ ?_; (focus (simp; done)); (conv => { arg 4; simp (disch := omega)  }); (first | refine zaa ?_ | (refine zac ?_; (conv => { arg 5; simp })))) | (refine zab rfl ?_ ?_; (focus (simp; done))))); with_reducible refine zad ?_
      exact ⟨Z + X, by omega, Z, X, o', ox, P', S', PX, SX, ⟨14, 0, 0⟩, ⟨12, 0, 0⟩, rfl, s1, hX, hg2, .inr ⟨rfl, rfl⟩, by simp, by simp [h5, h6], by simp [h7], by simp [h8], by simp, by simp [hsX], q1, lPX, by omega, by omega⟩
    · (repeat (first | with_reducible (first | refine WL.seq ?_ | refine WL.skip ?_ | refine WL.label ?_ | refine WL.block ?_ | refine WL.scope ?_ | refine WL.nilS ?_ | refine WL.reS ?_ | refine WL.exS ?_ | refine WL.nilB ?_ | refine WL.nilT ?_ | refine WL.exit ?_ | refine WL.ret ?_ | refine WL.exT ?_ | refine WL.exB ?_ | refine WL.exN rfl ?_ | refine WL.reT ?_ | refine WL.reB ?_) | ((first | refine WL.reg rfl ?_ | refine WL.regT zai rfl ?_); (conv => { arg 3; simp [prep, prep1] }); (repeat (first | (refine zae ?_ ?_; (focus (simp; done)); (conv => { arg 4; simp (disch := omega) [h5, h6, hsX, hsY, cutX, cutY, bX, bY] }); (first | (first | refine zaa ?_ | (refine zac ?_; (conv => { arg 5; simp }))) | (refine zal false rfl rfl ⟨_, Tryz.func110, rfl, rfl⟩ ?_; (conv => { arg 6; simp (disch := omega) [h5, h6, hsX, hsY, cutX, cutY, bX, bY] }); refine zaf (cC) rfl ?_; (conv => { arg 5; simp (disch := omega) [h5, h6, hsX, hsY, cutX, cutY, bX, bY] })))) | (refine zab rfl ?_ ?_; (focus (simp; done))))); with_reducible refine zad ?_; (first | refine ⟨rfl, ?_⟩ | refine ⟨by simp [quietB], by simp [quietU], ?_⟩ | skip)) | (refine WL.cond ?_; (conv => { arg 1; simp (disch := omega) [h5, h6, hsX, hsY, cutX, cutY, bX, bY] }); with_reducible (first | refine zaj ?_ | refine zak ?_ | refine zag (by omega) ?_ | refine zah (by omega) ?_))))
      (first | refine WL.reg rfl ?_ | refine WL.regT zai rfl ?_); (conv => { arg 3; simp [prep, prep1] }); (repeat (first | (refine zae ?_ ?_; (focus (simp; done)); (conv => { arg 4; simp (disch := omega) [h5, h6, hsX, hsY] }); (first | (first | refine zaa ?_ | (refine zac ?_; (conv => { arg 5; simp }))))) | (refine zab rfl ?_ ?_; (focus (simp; done)))))
      refine zbu [⟨12, 0, 0⟩, ⟨14, 0, 0⟩] [] [] true cL ⟨_, Tryz.func111, rfl, rfl⟩ rfl rfl rfl (by simp (disch := omega) [h5, h6, hsX, hsY, idx]) (by simp (disch := omega) [hsX, hsY, idx]) (by simp) (by simp) ?_; (conv => { arg 5; simp (disch := omega) [idx] })
      (repeat (first | (refine zae ?_ ?_; (focus (simp; done)); (conv => { arg 4; simp (disch := omega)  }); (first | refine zaa ?_ | (refine zac ?_; (conv => { arg 5; simp })))) | (refine zab rfl ?_ ?_; (focus (simp; done))))); with_reducible refine zad ?_
      (repeat (first | with_reducible (first | refine WL.seq ?_ | refine WL.skip ?_ | refine WL.label ?_ | refine WL.block ?_ | refine WL.scope ?_ | refine WL.nilS ?_ | refine WL.reS ?_ | refine WL.exS ?_ | refine WL.nilB ?_ | refine WL.nilT ?_ | refine WL.exit ?_ | refine WL.ret ?_ | refine WL.exT ?_ | refine WL.exB ?_ | refine WL.exN rfl ?_ | refine WL.reT ?_ | refine WL.reB ?_) | ((first | refine WL.reg rfl ?_ | refine WL.regT zai rfl ?_); (conv => { arg 3; simp [prep, prep1] }); (repeat (first | (refine zae ?_ ?_; (focus (simp; done)); (conv => { arg 4; simp (disch := omega)  }); (first | (first | refine zaa ?_ | (refine zac ?_; (conv => { arg 5; simp }))))) | (refine zab rfl ?_ ?_; (focus (simp; done))))); with_reducible refine zad ?_; (first | refine ⟨rfl, ?_⟩ | refine ⟨by simp [quietB], by simp [quietU], ?_⟩ | skip)) | (refine WL.cond ?_; (conv => { arg 1; simp (disch := omega)  }); with_reducible (first | refine zaj ?_ | refine zak ?_ | refine zag (by omega) ?_ | refine zah (by omega) ?_))))
      (first | refine WL.reg rfl ?_ | refine WL.regT zai rfl ?_); (conv => { arg 3; simp [prep, prep1] }); (repeat (first | (refine zae ?_ ?_; (focus (simp; done)); (conv => { arg 4; simp (disch := omega) [h5, h6, hsX, hsY] }); (first | (first | refine zaa ?_ | (refine zac ?_; (conv => { arg 5; simp }))))) | (refine zab rfl ?_ ?_; (focus (simp; done)))))
      refine zbu [⟨12, 0, 0⟩] [] [] true cO ⟨_, Tryz.func109, rfl, rfl⟩ rfl rfl rfl (by simp (disch := omega) [idx]) (by simp (disch := omega) [idx]) (by simp) (by simp) ?_; (conv => { arg 5; simp (disch := omega) [idx] })
      (repeat (first | (refine zae ?_ ?_; (focus (simp; done)); (conv => { arg 4; simp (disch := omega)  }); (first | refine zaa ?_ | (refine zac ?_; (conv => { arg 5; simp })))) | (refine zab rfl ?_ ?_; (focus (simp; done))))); with_reducible refine zad ?_
      exact ⟨Z + X, by omega, Z, X, o', ox, P', S', PX, SX, ⟨12, 0, 0⟩, ⟨14, 0, 0⟩, rfl, s1, hX, hg2, .inl ⟨rfl, rfl⟩, by simp, by simp [h5, h6], by simp [h7], by simp [h8], by simp, by simp [hsX], q1, lPX, by omega, by omega⟩
  -- the same: done
  · subst heq
    have hc : cmpI X X = 0 := by unfold cmpI; rw [if_neg (by omega), if_neg (by omega)]
    rw [hc] at cC
    have cG := hG X (by rw [← hgcd, Nat.gcd_self])
    rcases hid with ⟨rfl, rfl⟩ | ⟨rfl, rfl⟩
    · (repeat (first | with_reducible (first | refine WL.seq ?_ | refine WL.skip ?_ | refine WL.label ?_ | refine WL.block ?_ | refine WL.scope ?_ | refine WL.nilS ?_ | refine WL.reS ?_ | refine WL.exS ?_ | refine WL.nilB ?_ | refine WL.nilT ?_ | refine WL.exit ?_ | refine WL.ret ?_ | refine WL.exT ?_ | refine WL.exB ?_ | refine WL.exN rfl ?_ | refine WL.reT ?_ | refine WL.reB ?_) | ((first | refine WL.reg rfl ?_ | refine WL.regT zai rfl ?_); (conv => { arg 3; simp [prep, prep1] }); (repeat (first | (refine zae ?_ ?_; (focus (simp; done)); (conv => { arg 4; simp (disch := omega) [h5, h6, hsX, hsY, cutX, cutY, bX, bY] }); (first | (first | refine zaa ?_ | (refine zac ?_; (conv => { arg 5; simp }))) | (refine zal false rfl rfl ⟨_, Tryz.func110, rfl, rfl⟩ ?_; (conv => { arg 6; simp (disch := omega) [h5, h6, hsX, hsY, cutX, cutY, bX, bY] }); refine zaf (cC) rfl ?_; (conv => { arg 5; simp (disch := omega) [h5, h6, hsX, hsY, cutX, cutY, bX, bY] })))) | (refine zab rfl ?_ ?_; (focus (simp; done))))); with_reducible refine zad ?_; (first | refine ⟨rfl, ?_⟩ | refine ⟨by simp [quietB], by simp [quietU], ?_⟩ | skip)) | (refine WL.cond ?_; (conv => { arg 1; simp (disch := omega) [h5, h6, hsX, hsY, cutX, cutY, bX, bY] }); with_reducible (first | refine zaj ?_ | refine zak ?_ | refine zag (by omega) ?_ | refine zah (by omega) ?_))))
      (repeat (first | with_reducible (first | refine WL.seq ?_ | refine WL.skip ?_ | refine WL.label ?_ | refine WL.block ?_ | refine WL.scope ?_ | refine WL.nilS ?_ | refine WL.reS ?_ | refine WL.exS ?_ | refine WL.nilB ?_ | refine WL.nilT ?_ | refine WL.exit ?_ | refine WL.ret ?_ | refine WL.exT ?_ | refine WL.exB ?_ | refine WL.exN rfl ?_ | refine WL.reT ?_ | refine WL.reB ?_) | ((first | refine WL.reg rfl ?_ | refine WL.regT zai rfl ?_); (conv => { arg 3; simp [prep, prep1] }); (repeat (first | (refine zae ?_ ?_; (focus (simp; done)); (conv => { arg 4; simp (disch := omega) [h5, h6, h7, h8, hsX, hsY, cutX, cutY, bX, bY, hmin] }); (first | (first | refine zaa ?_ | (refine zac ?_; (conv => { arg 5; simp }))) | (refine zal true rfl rfl ⟨_, Tryz.func112, rfl, rfl⟩ ?_; (conv => { arg 6; simp (disch := omega) [h5, h6, h7, h8, hsX, hsY, cutX, cutY, bX, bY, hmin] }); refine zaf (cG) rfl ?_; (conv => { arg 5; simp (disch := omega) [h5, h6, h7, h8, hsX, hsY, cutX, cutY, bX, bY, hmin] })))) | (refine zab rfl ?_ ?_; (focus (simp; done))))); with_reducible refine zad ?_; (first | refine ⟨rfl, ?_⟩ | refine ⟨by simp [quietB], by simp [quietU], ?_⟩ | skip)) | (refine WL.cond ?_; (conv => { arg 1; simp (disch := omega) [h5, h6, h7, h8, hsX, hsY, cutX, cutY, bX, bY, hmin] }); with_reducible (first | refine zaj ?_ | refine zak ?_ | refine zag (by omega) ?_ | refine zah (by omega) ?_))))
      refine ⟨[], ?_⟩
      simp (disch := omega) 
    · (repeat (first | with_reducible (first | refine WL.seq ?_ | refine WL.skip ?_ | refine WL.label ?_ | refine WL.block ?_ | refine WL.scope ?_ | refine WL.nilS ?_ | refine WL.reS ?_ | refine WL.exS ?_ | refine WL.nilB ?_ | refine WL.nilT ?_ | refine WL.exit ?_ | refine WL.ret ?_ | refine WL.exT ?_ | refine WL.exB ?_ | refine WL.exN rfl ?_ | refine WL.reT ?_ | refine WL.reB ?_) | ((first | refine WL.reg rfl ?_ | refine WL.regT zai rfl ?_); (conv => { arg 3; simp [prep, prep1] }); (repeat (first | (refine zae ?_ ?_; (focus (simp; done)); (conv => { arg 4; simp (disch := omega) [h5, h6, hsX, hsY, cutX, cutY, bX, bY] }); (first | (first | refine zaa ?_ | (refine zac ?_; (conv => { arg 5; simp }))) | (refine zal false rfl rfl ⟨_, Tryz.func110, rfl, rfl⟩ ?_; (conv => { arg 6; simp (disch := omega) [h5, h6, hsX, hsY, cutX, cutY, bX, bY] }); refine zaf (cC) rfl ?_; (conv => { arg 5; simp (disch := omega) [h5, h6, hsX, hsY, cutX, cutY, bX, bY] })))) | (refine zab rfl ?_ ?_; (focus (simp; done))))); with_reducible refine zad ?_; (first | refine ⟨rfl, ?_⟩ | refine ⟨by simp [quietB], by simp [quietU], ?_⟩ | skip)) | (refine WL.cond ?_; (conv => { arg 1; simp (disch := omega) [h5, h6, hsX, hsY, cutX, cutY, bX, bY] }); with_reducible (first | refine zaj ?_ | refine zak ?_ | refine zag (by omega) ?_ | refine zah (by omega) ?_))))
      (repeat (first | with_reducible (first | refine WL.seq ?_ | refine WL.skip ?_ | refine WL.label ?_ | refine WL.block ?_ | refine WL.scope ?_ | refine WL.nilS ?_ | refine WL.reS ?_ | refine WL.exS ?_ | refine WL.nilB ?_ | refine WL.nilT ?_ | refine WL.exit ?_ | refine WL.ret ?_ | refine WL.exT ?_ | refine WL.exB ?_ | refine WL.exN rfl ?_ | refine WL.reT ?_ | refine WL.reB ?_) | ((first | refine WL.reg rfl ?_ | refine WL.regT zai rfl ?_); (conv => { arg 3; simp [prep, prep1] }); (repeat (first | (refine zae ?_ ?_; (focus (simp; done)); (conv => { arg 4; simp (disch := omega) [h5, h6, h7, h8, hsX, hsY, cutX, cutY, bX, bY, hmin] }); (first | (first | refine zaa ?_ | (refine zac ?_; (conv => { arg 5; simp }))) | (refine zal true rfl rfl ⟨_, Tryz.func112, rfl, rfl⟩ ?_; (conv => { arg 6; simp (disch := omega) [h5, h6, h7, h8, hsX, hsY, cutX, cutY, bX, bY, hmin] }); refine zaf (cG) rfl ?_; (conv => { arg 5; simp (disch := omega) [h5, h6, h7, h8, hsX, hsY, cutX, cutY, bX, bY, hmin] })))) | (refine zab rfl ?_ ?_; (focus (simp; done))))); with_reducible refine zad ?_; (first | refine ⟨rfl, ?_⟩ | refine ⟨by simp [quietB], by simp [quietU], ?_⟩ | skip)) | (refine WL.cond ?_; (conv => { arg 1; simp (disch := omega) [h5, h6, h7, h8, hsX, hsY, cutX, cutY, bX, bY, hmin] }); with_reducible (first | refine zaj ?_ | refine zak ?_ | refine zag (by omega) ?_ | refine zah (by omega) ?_))))
      refine ⟨[], ?_⟩
      simp (disch := omega) 
  -- Y < X
  · have hc : cmpI X Y = 1 := by unfold cmpI; rw [if_neg (by omega), if_pos hgt]
    rw [hc] at cC
    obtain ⟨s1, s2, s3⟩ := zob hX hY hgt
    have cL := znq 1 1 ox oy (nw X).length (nw Y).length PX (nw X) SX PY (nw Y) SY lPX rfl (zaq _) (zaq _) (by omega) lPY rfl (by omega)
    have hlen : (nw Y).length ≤ (nw X).length := zat (by omega)
    have vD := zka (zaq X) (zaq Y) hlen (by rw [zam, zam]; omega)
    rw [zam, zam] at vD
    have lD := zew (nw X) (nw Y) 0
    have wD := zge (nw X) (nw Y) 0
    generalize subL (nw X) (nw Y) 0 = D at *
    obtain ⟨o', P', S', q1, q2, cO⟩ := zno 1 ox (nw X).length PX D SX lPX lD wD (by rw [vD]; omega) (by omega)
    rw [vD] at cO q2
    have hg2 : Nat.gcd (oddP (X - Y)) Y = Nat.gcd X0 Y0 := by rw [s2]; exact hgcd
    generalize oddP (X - Y) = Z at *
    rcases hid with ⟨rfl, rfl⟩ | ⟨rfl, rfl⟩
    · (repeat (first | with_reducible (first | refine WL.seq ?_ | refine WL.skip ?_ | refine WL.label ?_ | refine WL.block ?_ | refine WL.scope ?_ | refine WL.nilS ?_ | refine WL.reS ?_ | refine WL.exS ?_ | refine WL.nilB ?_ | refine WL.nilT ?_ | refine WL.exit ?_ | refine WL.ret ?_ | refine WL.exT ?_ | refine WL.exB ?_ | refine WL.exN rfl ?_ | refine WL.reT ?_ | refine WL.reB ?_) | ((first | refine WL.reg rfl ?_ | refine WL.regT zai rfl ?_); (conv => { arg 3; simp [prep, prep1] }); (repeat (first | (refine zae ?_ ?_; (focus (simp; done)); (conv => { arg 4; simp (disch := omega) [h5, h6, hsX, hsY, cutX, cutY, bX, bY] }); (first | (first | refine zaa ?_ | (refine zac ?_; (conv => { arg 5; simp }))) | (refine zal false rfl rfl ⟨_, Tryz.func110, rfl, rfl⟩ ?_; (conv => { arg 6; simp (disch := omega) [h5, h6, hsX, hsY, cutX, cutY, bX, bY] }); refine zaf (cC) rfl ?_; (conv => { arg 5; simp (disch := omega) [h5, h6, hsX, hsY, cutX, cutY, bX, bY] })))) | (refine zab rfl ?_ ?_; (focus (simp; done))))); with_reducible refine zad ?_; (first | refine ⟨rfl, ?_⟩ | refine ⟨by simp [quietB], by simp [quietU], ?_⟩ | skip)) | (refine WL.cond ?_; (conv => { arg 1; simp (disch := omega) [h5, h6, hsX, hsY, cutX, cutY, bX, bY] }); with_reducible (first | refine zaj ?_ | refine zak ?_ | refine zag (by omega) ?_ | refine zah (by omega) ?_))))
      (first | refine WL.reg rfl ?_ | refine WL.regT zai rfl ?_); (conv => { arg 3; simp [prep, prep1] }); (repeat (first | (refine zae ?_ ?_; (focus (simp; done)); (conv => { arg 4; simp (disch := omega) [h5, h6, hsX, hsY] }); (first | (first | refine zaa ?_ | (refine zac ?_; (conv => { arg 5; simp }))))) | (refine zab rfl ?_ ?_; (focus (simp; done)))))
      refine zbu [⟨12, 0, 0⟩, ⟨14, 0, 0⟩] [] [] true cL ⟨_, Tryz.func111, rfl, rfl⟩ rfl rfl rfl (by simp (disch := omega) [h5, h6, hsX, hsY, idx]) (by simp (disch := omega) [hsX, hsY, idx]) (by simp) (by simp) ?_; (conv => { arg 5; simp (disch := omega) [idx] })
      (repeat (first | (refine zae ?_ ?_; (focus (simp; done)); (conv => { arg 4; simp (disch := omega)  }); (first | refine zaa ?_ | (refine zac ?_; (conv => { arg 5; simp })))) | (refine zab rfl ?_ ?_; (focus (simp; done))))); with_reducible refine zad ?_
      (repeat (first | with_reducible (first | refine WL.seq ?_ | refine WL.skip ?_ | refine WL.label ?_ | refine WL.block ?_ | refine WL.scope ?_ | refine WL.nilS ?_ | refine WL.reS ?_ | refine WL.exS ?_ | refine WL.nilB ?_ | refine WL.nilT ?_ | refine WL.exit ?_ | refine WL.ret ?_ | refine WL.exT ?_ | refine WL.exB ?_ | refine WL.exN rfl ?_ | refine WL.reT ?_ | refine WL.reB ?_) | ((first | refine WL.reg rfl ?_ | refine WL.regT zai rfl ?_); (conv => { arg 3; simp [prep, prep1] }); (repeat (first | (refine zae ?_ ?_; (focus (simp; done)); (conv => { arg 4; simp (disch := omega)  }); (first | (first | refine zaa ?_ | (refine zac ?_; (conv => { arg 5; simp }))))) | (refine zab rfl ?_ ?_; (focus (simp; done))))); with_reducible refine zad ?_; (first | refine ⟨rfl, ?_⟩ | refine ⟨by simp [quietB], by simp [quietU], ?_⟩ | skip)) | (refine WL.cond ?_; (conv => { arg 1; simp (disch := omega)  }); with_reducible (first | refine zaj ?_ | refine zak ?_ | refine zag (by omega) ?_ | refine zah (by omega) ?_))))
      (first | refine WL.reg rfl ?_ | refine WL.regT zai rfl ?_); (conv => { arg 3; simp [prep, prep1] }); (repeat (first | (refine zae ?_ ?_; (focus (simp; done)); (conv => { arg 4; simp (disch := omega) [h5, h6, hsX, hsY] }); (first | (first | refine zaa ?_ | (refine zac ?_; (conv => { arg 5; simp }))))) | (refine zab rfl ?_ ?_; (focus (simp; done)))))
      refine zbu [⟨12, 0, 0⟩] [] [] true cO ⟨_, Tryz.func109, rfl, rfl⟩ rfl rfl rfl (by simp (disch := omega) [idx]) (by simp (disch := omega) [idx]) (by simp) (by simp) ?_; (conv => { arg 5; simp (disch := omega) [idx] })
      (repeat (first | (refine zae ?_ ?_; (focus (simp; done)); (conv => { arg 4; simp (disch := omega)  }); (first | refine zaa ?_ | (refine zac ?_; (conv => { arg 5; simp })))) | (refine zab rfl ?_ ?_; (focus (simp; done))))); with_reducible refine zad ?_
      exact ⟨Z + Y, by omega, Z, Y, o', oy, P', S', PY, SY, ⟨12, 0, 0⟩, ⟨14, 0, 0⟩, rfl, s1, hY, hg2, .inl ⟨rfl, rfl⟩, by simp, by simp [h6], by simp [h7], by simp [h8], by simp, by simp [hsY], q1, lPY, by omega, by omega⟩
    · (repeat (first | with_reducible (first | refine WL.seq ?_ | refine WL.skip ?_ | refine WL.label ?_ | refine WL.block ?_ | refine WL.scope ?_ | refine WL.nilS ?_ | refine WL.reS ?_ | refine WL.exS ?_ | refine WL.nilB ?_ | refine WL.nilT ?_ | refine WL.exit ?_ | refine WL.ret ?_ | refine WL.exT ?_ | refine WL.exB ?_ | refine WL.exN rfl ?_ | refine WL.reT ?_ | refine WL.reB ?_) | ((first | refine WL.reg rfl ?_ | refine WL.regT zai rfl ?_); (conv => { arg 3; simp [prep, prep1] }); (repeat (first | (refine zae ?_ ?_; (focus (simp; done)); (conv => { arg 4; simp (disch := omega) [h5, h6, hsX, hsY, cutX, cutY, bX, bY] }); (first | (first | refine zaa ?_ | (refine zac ?_; (conv => { arg 5; simp }))) | (refine zal false rfl rfl ⟨_, Tryz.func110, rfl, rfl⟩ ?_; (conv => { arg 6; simp (disch := omega) [h5, h6, hsX, hsY, cutX, cutY, bX, bY] }); refine zaf (cC) rfl ?_; (conv => { arg 5; simp (disch := omega) [h5, h6, hsX, hsY, cutX, cutY, bX, bY] })))) | (refine zab rfl ?_ ?_; (focus (simp; done))))); with_reducible refine zad ?_; (first | refine ⟨rfl, ?_⟩ | refine ⟨by simp [quietB], by simp [quietU], ?_⟩ | skip)) | (refine WL.cond ?_; (conv => { arg 1; simp (disch := omega) [h5, h6, hsX, hsY, cutX, cutY, bX, bY] }); with_reducible (first | refine zaj ?_ | refine zak ?_ | refine zag (by omega) ?_ | refine zah (by omega) ?_))))
      (first | refine WL.reg rfl ?_ | refine WL.regT zai rfl ?_); (conv => { arg 3; simp [prep, prep1] }); (repeat (first | (refine zae ?_ ?_; (focus (simp; done)); (conv => { arg 4; simp (disch := omega) [h5, h6, hsX, hsY] }); (first | (first | refine zaa ?_ | (refine zac ?_; (conv => { arg 5; simp }))))) | (refine zab rfl ?_ ?_; (focus (simp; done)))))
      refine zbu [⟨14, 0, 0⟩, ⟨12, 0, 0⟩] [] [] true cL ⟨_, Tryz.func111, rfl, rfl⟩ rfl rfl rfl (by simp (disch := omega) [h5, h6, hsX, hsY, idx]) (by simp (disch := omega) [hsX, hsY, idx]) (by simp) (by simp) ?_; (conv => { arg 5; simp (disch := omega) [idx] })
      (repeat (first | (refine zae ?_ ?_; (focus (simp; done)); (conv => { arg 4; simp (disch := omega)  }); (first | refine zaa ?_ | (refine zac ?_; (conv => { arg 5; simp })))) | (refine zab rfl ?_ ?_; (focus (simp; done))))); with_reducible refine zad ?_
      (repeat (first | with_reducible (first | refine WL.seq ?_ | refine WL.skip ?_ | refine WL.label ?_ | refine WL.block ?_ | refine WL.scope ?_ | refine WL.nilS ?_ | refine WL.reS ?_ | refine WL.exS ?_ | refine WL.nilB ?_ | refine WL.nilT ?_ | refine WL.exit ?_ | refine WL.ret ?_ | refine WL.exT ?_ | refine WL.exB ?_ | refine WL.exN rfl ?_ | refine WL.reT ?_ | refine WL.reB ?_) | ((first | refine WL.reg rfl ?_ | refine WL.regT zai rfl ?_); (conv => { arg 3; simp [prep, prep1] }); (repeat (first | (refine zae ?_ ?_; (focus (simp; done)); (conv => { arg 4; simp (disch := omega)  }); (first | (first | refine zaa ?_ | (refine zac ?_; (conv => { arg 5; simp }))))) | (refine zab rfl ?_ ?_; (focus (simp; done))))); with_reducible refine zad ?_; (first | refine ⟨rfl, ?_⟩ | refine ⟨by simp [quietB], by simp [quietU], ?_⟩ | skip)) | (refine WL.cond ?_; (conv => { arg 1; simp (disch := omega)  }); with_reducible (first | refine zaj ?_ | refine zak ?_ | refine zag (by omega) ?_ | refine zah (by omega) ?_))))
      (first | refine WL.reg rfl ?_ | refine WL.regT zai rfl ?_); (conv => { arg 3; simp [prep, prep1] }); (repeat (first | (refine zae ?_ ?_; (focus (simp; done)); (conv => { arg 4; simp (disch := omega) [h5, h6, hsX, hsY] }); (first | (first | refine zaa ?_ | (refine zac ?_; (conv => { arg 5; simp }))))) | (refine zab rfl ?_ ?_; (focus (simp; done)))))
      refine zbu [⟨14, 0, 0⟩] [] [] true cO ⟨_, Tryz.func109, rfl, rfl⟩ rfl rfl rfl (by simp (disch := omega) [idx]) (by simp (disch := omega) [idx]) (by simp) (by simp) ?_; (conv => { arg 5; simp (disch := omega) [idx] })
      (repeat (first | (refine zae ?_ ?_; (focus (simp; done)); (conv => { arg 4; simp (disch := omega)  }); (first | refine zaa ?_ | (refine zac ?_; (conv => { arg 5; simp })))) | (refine zab rfl ?_ ?_; (focus (simp; done))))); with_reducible refine zad ?_
      exact ⟨Z + Y, by omega, Z, Y, o', oy, P', S', PY, SY, ⟨14, 0, 0⟩, ⟨12, 0, 0⟩, rfl, s1, hY, hg2, .inr ⟨rfl, rfl⟩, by simp, by simp [h6], by simp [h7], by simp [h8], by simp, by simp [hsY], q1, lPY, by omega, by omega⟩
end Go.Proofs.YthgldcflcmlgpaaGreatDoorE
end
