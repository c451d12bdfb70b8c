import PyProof.Rows.All
import Wide.All
import OpenK.AllK
import Wide.FinOn
import PySem.Challenge.RW_k20_0011
namespace Mine
theorem less_low {a b d g1 g2 : Int} (hd : 0 < d) (h1 : 0 < g1) (h2 : 0 < g2) (e1 : g1 ∣ a) (e2 : g1 ∣ d) (e3 : g2 ∣ b) (e4 : g2 ∣ d) :
    Int.fdiv a g1 * Int.fdiv d g2 < Int.fdiv b g2 * Int.fdiv d g1 ↔ a < b := by
  obtain ⟨a', rfl⟩ := e1
  obtain ⟨b', rfl⟩ := e3
  obtain ⟨d1, hd1⟩ := e2
  obtain ⟨d2, hd2⟩ := e4
  have k1 : Int.fdiv (g1 * a') g1 = a' := by rw [Int.mul_comm]; exact Int.mul_fdiv_cancel _ (by omega)
  have k2 : Int.fdiv (g2 * b') g2 = b' := by rw [Int.mul_comm]; exact Int.mul_fdiv_cancel _ (by omega)
  have k3 : Int.fdiv d g1 = d1 := by rw [hd1, Int.mul_comm]; exact Int.mul_fdiv_cancel _ (by omega)
  have k4 : Int.fdiv d g2 = d2 := by rw [hd2, Int.mul_comm]; exact Int.mul_fdiv_cancel _ (by omega)
  rw [k1, k2, k3, k4]
  have hg : 0 < g1 * g2 := Int.mul_pos h1 h2
  have l : g1 * g2 * (a' * d2) = g1 * a' * d := by rw [hd2]; simp only [Int.mul_left_comm, Int.mul_comm]
  have r : g1 * g2 * (b' * d1) = g2 * b' * d := by rw [hd1]; simp only [Int.mul_left_comm, Int.mul_comm]
  constructor
  · intro h
    have q := Int.mul_lt_mul_of_pos_left h hg
    rw [l, r] at q
    exact Int.lt_of_mul_lt_mul_right q (Int.le_of_lt hd)
  · intro h
    have q := Int.mul_lt_mul_of_pos_right h hd
    rw [← l, ← r] at q
    exact Int.lt_of_mul_lt_mul_left q (Int.le_of_lt hg)

theorem less_up {a b d e : Int} (hd : 2 ≤ d) (he : 2 ≤ e) (h : a < b) : (a * d + 1) * e < (b * e + 1) * d := by
  have hde : 0 < d * e := Int.mul_pos (by omega) (by omega)
  have q : (a + 1) * (d * e) ≤ b * (d * e) := Int.mul_le_mul_of_nonneg_right (by omega) (by omega)
  have k : 2 * e ≤ d * e := Int.mul_le_mul_of_nonneg_right hd (by omega)
  have x1 : (a * d + 1) * e = a * (d * e) + e := by rw [Int.add_mul, Int.one_mul, Int.mul_assoc]
  have x2 : (b * e + 1) * d = b * (d * e) + d := by rw [Int.add_mul, Int.one_mul, Int.mul_assoc, Int.mul_comm e d]
  rw [x1, x2]
  rw [Int.add_mul, Int.one_mul] at q
  omega
theorem less_far {a b d e : Int} (hd : 2 ≤ d) (he : 2 ≤ e) (hne : a ≠ b) : (a * d + 1) * e < (b * e + 1) * d ↔ a < b := by
  constructor
  · intro h
    rcases Int.lt_trichotomy a b with k | k | k
    · exact k
    · exact absurd k hne
    · have := less_up (d := e) (e := d) he hd k
      omega
  · exact less_up hd he
theorem less_same {a d e : Int} : (a * d + 1) * e < (a * e + 1) * d ↔ e < d := by
  have x1 : (a * d + 1) * e = a * (d * e) + e := by rw [Int.add_mul, Int.one_mul, Int.mul_assoc]
  have x2 : (a * e + 1) * d = a * (d * e) + d := by rw [Int.add_mul, Int.one_mul, Int.mul_assoc, Int.mul_comm e d]
  rw [x1, x2]
  omega

theorem two_abs (c : Int) : 2 ≤ 2 + (if c < 0 then -c else c) := by split <;> omega
theorem bne_contra {P Q : Prop} [Decidable P] [Decidable Q] (h : (decide P != decide Q) = true) (e : P ↔ Q) : False := by
  have : decide P = decide Q := decide_eq_decide.mpr e
  rw [this] at h
  simp at h
theorem end_far {a b d e : Int} (h : (decide ((a * d + 1) * e < (b * e + 1) * d) != decide (a < b)) = true) (hne : ¬ a = b) (hd : 2 ≤ d) (he : 2 ≤ e) : False := bne_contra h (less_far hd he hne)
theorem end_far' {a b d e : Int} (h : (decide ((b * e + 1) * d < (a * d + 1) * e) != decide (b < a)) = true) (hne : ¬ a = b) (hd : 2 ≤ d) (he : 2 ≤ e) : False := bne_contra h (less_far he hd fun q => hne q.symm)
theorem end_same {a b d e : Int} (h : (decide ((a * d + 1) * e < (b * e + 1) * d) != decide (e < d)) = true) (hab : a = b) : False := by
  subst hab; exact bne_contra h less_same
theorem end_same' {a b d e : Int} (h : (decide ((b * e + 1) * d < (a * d + 1) * e) != decide (d < e)) = true) (hab : a = b) : False := by
  subst hab; exact bne_contra h less_same

theorem end_low {a b d g1 g2 : Int} (h : (decide (Int.fdiv a g1 * Int.fdiv d g2 < Int.fdiv b g2 * Int.fdiv d g1) != decide (a < b)) = true) (h1 : 1 ≤ g1) (h2 : 1 ≤ g2) (hd : g1 ≤ d) (e1 : g1 ∣ a) (e2 : g1 ∣ d) (e3 : g2 ∣ b) (e4 : g2 ∣ d) : False :=
  bne_contra h (less_low (by omega) (by omega) (by omega) e1 e2 e3 e4)

open PySem PySem.W PyProof.Rows
def lowStep (n d : Int) (l' : List Int) (k' : Int) : List Int := if (n.fmod d).fmod k' = 0 ∧ d.fmod k' = 0 then l' ++ [k'] else if (n.fmod d).fmod k' = 0 ∧ ¬ d.fmod k' = 0 then l' else l'
theorem low_mem (n d : Int) : ∀ (ks l : List Int) (x : Int), x ∈ List.foldl (lowStep n d) l ks ↔ x ∈ l ∨ (x ∈ ks ∧ (n.fmod d).fmod x = 0 ∧ d.fmod x = 0)
  | [], l, x => by simp
  | k :: ks, l, x => by
    rw [List.foldl_cons, low_mem n d ks]
    unfold lowStep
    by_cases hc : (n.fmod d).fmod k = 0 ∧ d.fmod k = 0
    · rw [if_pos hc, List.mem_append, List.mem_singleton, List.mem_cons]
      constructor
      · rintro ((h | h) | h)
        · exact .inl h
        · subst h; exact .inr ⟨.inl rfl, hc⟩
        · exact .inr ⟨.inr h.1, h.2⟩
      · rintro (h | ⟨h | h, h2⟩)
        · exact .inl (.inl h)
        · exact .inl (.inr h)
        · exact .inr ⟨h, h2⟩
    · have e : (if (n.fmod d).fmod k = 0 ∧ ¬ d.fmod k = 0 then l else l) = l := by split <;> rfl
      rw [if_neg hc, e, List.mem_cons]
      constructor
      · rintro (h | h)
        · exact .inl h
        · exact .inr ⟨.inr h.1, h.2⟩
      · rintro (h | ⟨h | h, h2⟩)
        · exact .inl h
        · subst h; exact absurd h2 hc
        · exact .inr ⟨h, h2⟩
theorem rangeKs_mem {a : Int} {n : Nat} {x : Int} : x ∈ rangeKs a n ↔ a ≤ x ∧ x < a + n := by
  unfold rangeKs
  rw [List.mem_map]
  constructor
  · rintro ⟨i, hi, rfl⟩
    have := List.mem_range.mp hi
    omega
  · rintro ⟨h1, h2⟩
    exact ⟨(x - a).toNat, List.mem_range.mpr (by omega), by omega⟩
section
variable {prog : Program} {w : World} {A : Around} {E : Value → Shared → Prop} {s : Shared} {h₀ : Heap} {L l : Addr} {m : Str → Option Value} {news : List (Addr × Obj)} {vs : List Value} {Q : Value → Shared → Prop}
theorem max_low {n d : Int} (F : Fr h₀ L s.heap m) (N : News h₀ L s.heap news) (hl : s.heap.IsList l vs.toArray)
    (hi : IntsAre vs (List.foldl (fun l' k' => if (n.fmod d).fmod k' = 0 ∧ d.fmod k' = 0 then l' ++ [k'] else if (n.fmod d).fmod k' = 0 ∧ ¬ d.fmod k' = 0 then l' else l') [] (rangeKs 1 (d + 1 - 1).toNat))) (hd : 1 ≤ d) (hh : A.handled = none)
    (h : ∀ h' M (t : Tok) tk, Fr h₀ L h' m → News h₀ L h' news → 1 ≤ M → M ≤ d → M ∣ n → M ∣ d → Q (.int M t) { s with heap := h', toks := tk }) : wpAny (model prog w) A (call (.builtin "max") [.ref l]) Q E s := by
  have mem := low_mem n d (rangeKs 1 (d + 1 - 1).toNat) []
  refine kso_max F N hl hi ?_ hh fun h' M t tk F' N' hM _ => ?_
  · have : (1 : Int) ∈ List.foldl (lowStep n d) [] (rangeKs 1 (d + 1 - 1).toNat) := (mem 1).mpr (.inr ⟨rangeKs_mem.mpr ⟨by omega, by omega⟩, Int.fmod_one _, Int.fmod_one _⟩)
    exact List.length_pos_of_mem this
  · obtain h0 | ⟨h1, h2, h3⟩ := (mem M).mp hM
    · exact absurd h0 List.not_mem_nil
    · have r := rangeKs_mem.mp h1
      have d1 : M ∣ d := Int.dvd_of_fmod_eq_zero h3
      have d2 : M ∣ n.fmod d := Int.dvd_of_fmod_eq_zero h2
      refine h h' M t tk F' N' (by omega) (by omega) ?_ d1
      have e := Int.fmod_add_mul_fdiv n d
      rw [← e]
      exact Int.dvd_add d2 (Int.dvd_trans d1 (Int.dvd_mul_right _ _))
end
end Mine
open PySem PySem.W PyProof.Rows
set_option Elab.async false
local macro_rules | `(tactic| walk_at "call builtin:max") => `(tactic| (k_here; (with_reducible show wpAny _ _ (call (Value.builtin _) [Value.ref _]) _ _ _); (with_unfolding_all refine' Mine.max_low ?k1 ?k2 ?k3 ?k4 ?k5 ?k6 ?_; (case k1 => k_asm); (case k2 => k_asm); (case k3 => kso_list); (case k4 => l_ints); (case k5 => omega); (case k6 => with_unfolding_all rfl); k_whole); intro h' M' t' k' F' N' a1' a2' a3' a4'; (try (with_reducible rename IntsAre _ (List.foldl _ _ _) => hz1; clear hz1)); (try (with_reducible rename _ = List.length (List.foldl _ _ _) => hz2; clear hz2)); (try (with_reducible rename List.length _ ≤ Int.toNat _ => hz3; clear hz3)); (try k_sweep)))
set_option maxRecDepth 100000 in
set_option maxHeartbeats 0 in
theorem PySem.Challenge.cw_k20_0011_holds : PySem.Challenge.rw_k20_0011.Holds := by
  (k_with "end" => ((with_reducible show (false == true) = true); exfalso; with_reducible first | exact Mine.end_same (by assumption) (by assumption) | exact Mine.end_same' (by assumption) (by assumption) | exact Mine.end_far (by assumption) (by assumption) (Mine.two_abs _) (Mine.two_abs _) | exact Mine.end_far' (by assumption) (by assumption) (Mine.two_abs _) (Mine.two_abs _) | exact Mine.end_low (by assumption) (by assumption) (by assumption) (by assumption) (by assumption) (by assumption) (by assumption) (by assumption)))
  open_k
