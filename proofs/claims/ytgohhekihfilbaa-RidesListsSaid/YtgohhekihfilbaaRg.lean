/- Rides: Gaps and Upto of the program, as laws of the numbers that a gate has. -/
import Derived.Test.YtgohhekihfilbaaMx7
import Derived.Test.YtgohhekihfilbaaRb
namespace Go.Proofs.Ytgohhekihfilbaa.Rl
open Go.RowKit Go.Proofs.Ytgohhekihfilbaa.M Go.Proofs.YtgohhekihfilbaaW.PrintWords Go.Proofs.YtgohhekihfilbaaW.PrintLast Go.Proofs.YtgohhekihfilbaaW.PrintMore
set_option linter.unusedSimpArgs false
set_option linter.unusedVariables false

/-- The gate g has a ride of number s. -/
def hasQ (l : List S28) (g s : Int) : Prop := ∃ y ∈ l, y.f0 = g ∧ y.f1 = s
theorem hasQ_take {l : List S28} {i : Nat} (h : i < l.length) (g s : Int) : hasQ (l.take (i + 1)) g s ↔ hasQ (l.take i) g s ∨ (l[i].f0 = g ∧ l[i].f1 = s) := by
  unfold hasQ
  rw [List.take_succ_eq_append_getElem h]
  constructor
  · rintro ⟨y, hy, h2⟩
    rcases List.mem_append.1 hy with hy | hy
    · exact .inl ⟨y, hy, h2⟩
    · rw [List.mem_singleton.1 hy] at h2; exact .inr h2
  · rintro (⟨y, hy, h2⟩ | h2)
    · exact ⟨y, List.mem_append_left _ hy, h2⟩
    · exact ⟨l[i], List.mem_append_right _ (List.mem_singleton_self _), h2⟩
theorem store_take {l : List S28} (hs : store l) {i : Nat} (h : i < l.length) {g s : Int} (hg : l[i].f0 = g) (hq : hasQ (l.take i) g s) : s < l[i].f1 := by
  obtain ⟨y, hy, h0, h1⟩ := hq
  have hp := hs.2
  rw [← List.take_append_drop i l] at hp
  have := (List.pairwise_append.1 hp).2.2 y hy l[i] (by rw [List.drop_eq_getElem_cons h]; exact List.mem_cons_self)
  unfold lt at this
  omega
theorem store_rng {l : List S28} (hs : store l) {g s : Int} (h : hasQ l g s) : 1 ≤ s ∧ s ≤ 1000000 := by
  obtain ⟨y, hy, _, h1⟩ := h
  have := hs.1 y hy
  unfold bad at this
  omega

/-! ### Upto -/
structure UpS (l : List S28) (g n : Int) : Prop where
  pos : 0 ≤ n
  all : ∀ s, 1 ≤ s → s ≤ n → hasQ l g s
  no : ¬ hasQ l g (n + 1)
theorem Upto_go (l : List S28) (hs : store l) (hl : l.length ≤ 100000) (g : Int) (d : Nat) : ∀ (i : Nat) (n : Int), l.length - i = d → i ≤ l.length → n ≤ i → UpS (l.take i) g n →
    ∃ u, UpS l g u ∧ u ≤ l.length ∧ Ev (fun k => rides_Upto.l0 k g n l (l.length : Int) (i : Int)) u := by
  induction d with
  | zero =>
    intro i n hd hi hn h
    rw [List.take_of_length_le (by omega)] at h
    refine ⟨n, h, by omega, Ev.at1 ?_⟩
    simp only [rides_Upto.l0, if_neg (show ¬ ((i : Int) < (l.length : Int)) by omega)]
    exact Ev.const _
  | succ d ih =>
    intro i n hd hi hn h
    have hlt : i < l.length := by omega
    have hp := h.pos
    by_cases hg : l[i].f0 = g
    · by_cases hq : l[i].f1 = n + 1
      · obtain ⟨u, hu, hul, he⟩ := ih (i + 1) (n + 1) (by omega) (by omega) (by omega) ⟨by omega, fun s h1 h2 => by
            rw [hasQ_take hlt]
            by_cases e : s = n + 1
            · exact .inr ⟨hg, by omega⟩
            · exact .inl (h.all s h1 (by omega)), by
            rw [hasQ_take hlt]
            rintro (h1 | ⟨_, h1⟩)
            · have := store_take hs hlt hg h1; omega
            · omega⟩
        refine ⟨u, hu, hul, Ev.at1 ?_⟩
        simp only [rides_Upto.l0, if_pos (show (i : Int) < (l.length : Int) by omega), if_pos (show (0 : Int) ≤ (i : Int) by omega), rd_at hlt, hg, if_true]
        rw [w64 (n := n + 1) (by omega) (by omega), w64 (n := (i : Int) + 1) (by omega) (by omega)]
        simp only [hq, if_true]
        exact he
      · obtain ⟨u, hu, hul, he⟩ := ih (i + 1) n (by omega) (by omega) (by omega) ⟨hp, fun s h1 h2 => by rw [hasQ_take hlt]; exact .inl (h.all s h1 h2), by
            rw [hasQ_take hlt]
            rintro (h1 | ⟨_, h1⟩)
            · exact h.no h1
            · omega⟩
        refine ⟨u, hu, hul, Ev.at1 ?_⟩
        simp only [rides_Upto.l0, if_pos (show (i : Int) < (l.length : Int) by omega), if_pos (show (0 : Int) ≤ (i : Int) by omega), rd_at hlt, hg, if_true]
        rw [w64 (n := n + 1) (by omega) (by omega), w64 (n := (i : Int) + 1) (by omega) (by omega)]
        simp only [hq, if_false]
        exact he
    · obtain ⟨u, hu, hul, he⟩ := ih (i + 1) n (by omega) (by omega) (by omega) ⟨hp, fun s h1 h2 => by rw [hasQ_take hlt]; exact .inl (h.all s h1 h2), by
          rw [hasQ_take hlt]
          rintro (h1 | ⟨h1, _⟩)
          · exact h.no h1
          · exact hg h1⟩
      refine ⟨u, hu, hul, Ev.at1 ?_⟩
      simp only [rides_Upto.l0, if_pos (show (i : Int) < (l.length : Int) by omega), if_pos (show (0 : Int) ≤ (i : Int) by omega), rd_at hlt, hg, if_false]
      rw [w64 (n := (i : Int) + 1) (by omega) (by omega)]
      exact he
theorem Upto_spec (l : List S28) (hs : store l) (hl : l.length ≤ 100000) (g : Int) : ∃ u, UpS l g u ∧ u ≤ l.length ∧ Ev (fun k => rides_Upto.f k l g) u :=
  Upto_go l hs hl g l.length 0 0 (by omega) (by omega) (by omega) ⟨Int.le_refl _, fun s h1 h2 => by omega, fun ⟨y, hy, _⟩ => by simp at hy⟩
theorem UpS.uniq {l : List S28} {g n m : Int} (h : UpS l g n) (h' : UpS l g m) : n = m := by
  have a := h.pos
  have b := h'.pos
  by_cases h1 : n < m
  · exact absurd (h'.all (n + 1) (by omega) (by omega)) h.no
  · by_cases h2 : m < n
    · exact absurd (h.all (m + 1) (by omega) (by omega)) h'.no
    · omega

/-! ### The greatest number -/
structure Gr (l : List S28) (g m : Int) : Prop where
  at_ : (m = 0 ∧ ∀ s, ¬ hasQ l g s) ∨ hasQ l g m
  le : ∀ s, hasQ l g s → s ≤ m
theorem Gr.step {l : List S28} (hs : store l) {i : Nat} (h : i < l.length) {g m : Int} (hg : Gr (l.take i) g m) : Gr (l.take (i + 1)) g (if l[i].f0 = g then l[i].f1 else m) := by
  by_cases e : l[i].f0 = g
  · rw [if_pos e]
    refine ⟨.inr ((hasQ_take h _ _).2 (.inr ⟨e, rfl⟩)), fun s hq => ?_⟩
    rcases (hasQ_take h _ _).1 hq with hq | ⟨_, hq⟩
    · have := store_take hs h e hq; omega
    · omega
  · rw [if_neg e]
    have key : ∀ s, hasQ (l.take (i + 1)) g s ↔ hasQ (l.take i) g s := fun s => by
      rw [hasQ_take h]
      exact ⟨fun h => h.elim id (fun h => absurd h.1 e), .inl⟩
    refine ⟨?_, fun s hq => hg.le s ((key s).1 hq)⟩
    rcases hg.at_ with ⟨h0, h1⟩ | h1
    · exact .inl ⟨h0, fun s hq => h1 s ((key s).1 hq)⟩
    · exact .inr ((key m).2 h1)
theorem Gr.uniq {l : List S28} (hs : store l) {g m n : Int} (h : Gr l g m) (h' : Gr l g n) : m = n := by
  rcases h.at_ with ⟨h0, h1⟩ | h1
  · rcases h'.at_ with ⟨h2, h3⟩ | h3
    · omega
    · exact absurd h3 (h1 n)
  · rcases h'.at_ with ⟨h2, h3⟩ | h3
    · exact absurd h1 (h3 m)
    · have := h.le n h3
      have := h'.le m h1
      omega
theorem Gr.nil (g : Int) : Gr [] g 0 := ⟨.inl ⟨rfl, fun s ⟨y, hy, _⟩ => by simp at hy⟩, fun s ⟨y, hy, _⟩ => by simp at hy⟩
theorem Gr.rng {l : List S28} (hs : store l) {g m : Int} (h : Gr l g m) : 0 ≤ m ∧ m ≤ 1000000 := by
  rcases h.at_ with ⟨h0, _⟩ | h1
  · omega
  · have := store_rng hs h1; omega
theorem Gr.ex {l : List S28} (hs : store l) (g : Int) : ∃ m, Gr l g m := by
  have : ∀ i, i ≤ l.length → ∃ m, Gr (l.take i) g m := by
    intro i
    induction i with
    | zero => intro _; exact ⟨0, by simpa using Gr.nil g⟩
    | succ i ih =>
      intro hi
      obtain ⟨m, hm⟩ := ih (by omega)
      exact ⟨_, hm.step hs (by omega)⟩
  obtain ⟨m, hm⟩ := this l.length (Nat.le_refl _)
  rw [List.take_of_length_le (Nat.le_refl _)] at hm
  exact ⟨m, hm⟩

/-! ### Gaps -/
/-- What has been found below n. -/
structure GI (P : Int → Prop) (out : List Int) (n : Int) : Prop where
  ord : out.Pairwise (· < ·)
  rng : ∀ m ∈ out, 1 ≤ m ∧ m < n ∧ ¬ P m
  len : out.length ≤ 100
  all : (∀ m, 1 ≤ m → m < n → ¬ P m → m ∈ out) ∨ out.length = 100
  down : ∀ m ∈ out, ∀ k, 1 ≤ k → k < m → ¬ P k → k ∈ out
theorem GI.add {P : Int → Prop} {out : List Int} {n : Int} (h : GI P out n) (h1 : 1 ≤ n) (hn : ¬ P n) (hl : out.length < 100) : GI P (out ++ [n]) (n + 1) := by
  have hall : ∀ m, 1 ≤ m → m < n → ¬ P m → m ∈ out := h.all.elim id (fun e => by omega)
  refine ⟨?_, fun m hm => ?_, by simp; omega, .inl (fun m a b c => ?_), fun m hm k a b c => ?_⟩
  · rw [List.pairwise_append]
    refine ⟨h.ord, List.pairwise_singleton _ _, fun a ha b hb => ?_⟩
    rw [List.mem_singleton.1 hb]
    exact (h.rng a ha).2.1
  · rcases List.mem_append.1 hm with hm | hm
    · have := h.rng m hm
      exact ⟨this.1, by omega, this.2.2⟩
    · rw [List.mem_singleton.1 hm]
      exact ⟨h1, by omega, hn⟩
  · by_cases e : m = n
    · subst e; simp
    · exact List.mem_append_left _ (hall m a (by omega) c)
  · rcases List.mem_append.1 hm with hm | hm
    · exact List.mem_append_left _ (h.down m hm k a b c)
    · rw [List.mem_singleton.1 hm] at b
      exact List.mem_append_left _ (hall k a b c)
theorem Gaps_inner (l : List S28) (g : Int) (i : Nat) (s s2 s3 s4 s5 s6 s0 : Int) (hs : s ≤ 1000000) (P : Int → Prop) (Q : List Int → Prop)
    (K : ∀ out, GI P out s → ∃ r, Q r ∧ Ev (fun k => rides_Gaps.l0 k g out (wrap64 (s + 1)) l (l.length : Int) (wrap64 ((i : Int) + 1))) r) (d : Nat) :
    ∀ (out : List Int) (n : Int), 100 - out.length = d → 1 ≤ n → n ≤ s → (∀ m, n ≤ m → m < s → ¬ P m) → GI P out n →
    ∃ r, Q r ∧ Ev (fun k => rides_Gaps.l1 k g out n l (l.length : Int) (i : Int) s0 s s2 s3 s4 s5 s6) r := by
  induction d with
  | zero =>
    intro out n hd h1 hn hP h
    have hlen := h.len
    obtain ⟨r, hr, he⟩ := K out ⟨h.ord, fun m hm => by have := h.rng m hm; exact ⟨this.1, by omega, this.2.2⟩, h.len, .inr (by omega), h.down⟩
    refine ⟨r, hr, Ev.at1 ?_⟩
    by_cases hlt : n < s
    · simp only [rides_Gaps.l1, hlt, if_true, if_neg (show ¬ ((out.length : Int) < 100) by omega)]
      exact he
    · simp only [rides_Gaps.l1, hlt, if_false]
      exact he
  | succ d ih =>
    intro out n hd h1 hn hP h
    by_cases hlt : n < s
    · obtain ⟨r, hr, he⟩ := ih (out ++ [n]) (n + 1) (by simp; omega) (by omega) (by omega) (fun m a b => hP m (by omega) b) (h.add h1 (hP n (Int.le_refl _) hlt) (by omega))
      refine ⟨r, hr, Ev.at1 ?_⟩
      simp only [rides_Gaps.l1, hlt, if_true, if_pos (show (out.length : Int) < 100 by omega), if_pos (show out.length < 17592186044416 by omega)]
      rw [w64 (n := n + 1) (by omega) (by omega)]
      exact he
    · have : n = s := by omega
      subst this
      obtain ⟨r, hr, he⟩ := K out h
      refine ⟨r, hr, Ev.at1 ?_⟩
      simp only [rides_Gaps.l1, hlt, if_false]
      exact he
/-- What Gaps answers. -/
structure GapS (l : List S28) (g m : Int) (out : List Int) : Prop where
  ord : out.Pairwise (· < ·)
  rng : ∀ n ∈ out, 1 ≤ n ∧ n < m ∧ ¬ hasQ l g n
  len : out.length ≤ 100
  all : (∀ n, 1 ≤ n → n < m → ¬ hasQ l g n → n ∈ out) ∨ out.length = 100
  down : ∀ n ∈ out, ∀ k, 1 ≤ k → k < n → ¬ hasQ l g k → k ∈ out
theorem Gaps_go (l : List S28) (hs : store l) (hl : l.length ≤ 100000) (g M : Int) (hM : Gr l g M) (d : Nat) : ∀ (i : Nat) (m : Int) (out : List Int), l.length - i = d → i ≤ l.length → Gr (l.take i) g m → GI (hasQ (l.take i) g) out (m + 1) →
    ∃ r, GapS l g M r ∧ Ev (fun k => rides_Gaps.l0 k g out (m + 1) l (l.length : Int) (i : Int)) r := by
  induction d with
  | zero =>
    intro i m out hd hi hm h
    rw [List.take_of_length_le (by omega)] at h hm
    have : m = M := hm.uniq hs hM
    subst this
    have hlast : ∀ n ∈ out, n < m := by
      intro n hn
      have h1 := h.rng n hn
      rcases hm.at_ with ⟨h0, _⟩ | h2
      · omega
      · by_cases e : n = m
        · subst e; exact absurd h2 h1.2.2
        · omega
    refine ⟨out, ⟨h.ord, fun n hn => ⟨(h.rng n hn).1, hlast n hn, (h.rng n hn).2.2⟩, h.len, h.all.imp (fun h n a b c => h n a (by omega) c) id, h.down⟩, Ev.at1 ?_⟩
    simp only [rides_Gaps.l0, if_neg (show ¬ ((i : Int) < (l.length : Int)) by omega)]
    exact Ev.const _
  | succ d ih =>
    intro i m out hd hi hm h
    have hlt : i < l.length := by omega
    have hstep := hm.step hs hlt
    have hrg := hs.1 l[i] (List.getElem_mem hlt)
    unfold bad at hrg
    by_cases hg : l[i].f0 = g
    · rw [if_pos hg] at hstep
      have hmlt : m < l[i].f1 := by
        rcases hm.at_ with ⟨h0, _⟩ | h2
        · omega
        · exact store_take hs hlt hg h2
      have hm0 : 0 ≤ m := by
        rcases hm.at_ with ⟨h0, _⟩ | ⟨y, hy, _, h2⟩
        · omega
        · have := hs.1 y (List.mem_of_mem_take hy); unfold bad at this; omega
      obtain ⟨r, hr, he⟩ := Gaps_inner l g i l[i].f1 l[i].f2 l[i].f3 l[i].f4 l[i].f5 l[i].f6 l[i].f0 (by omega) (hasQ (l.take i) g) (GapS l g M) (fun out' h' => by
        have h2 : GI (hasQ (l.take (i + 1)) g) out' (l[i].f1 + 1) := by
          have key : ∀ k, k < l[i].f1 → (hasQ (l.take (i + 1)) g k ↔ hasQ (l.take i) g k) := fun k hk => by
            rw [hasQ_take hlt]
            exact ⟨fun h => h.elim id (fun h => by omega), .inl⟩
          refine ⟨h'.ord, fun n hn => ?_, h'.len, h'.all.imp (fun hh n a b c => ?_) id, fun n hn k a b c => ?_⟩
          · have := h'.rng n hn
            exact ⟨this.1, by omega, fun hq => this.2.2 ((key n this.2.1).1 hq)⟩
          · have e : n ≠ l[i].f1 := by
              rintro rfl
              exact c ((hasQ_take hlt _ _).2 (.inr ⟨hg, rfl⟩))
            exact hh n a (by omega) (fun hq => c ((hasQ_take hlt _ _).2 (.inl hq)))
          · have := h'.rng n hn
            exact h'.down n hn k a b (fun hq => c ((hasQ_take hlt _ _).2 (.inl hq)))
        obtain ⟨r, hr, he⟩ := ih (i + 1) l[i].f1 out' (by omega) (by omega) hstep h2
        refine ⟨r, hr, ?_⟩
        rw [w64 (n := l[i].f1 + 1) (by omega) (by omega), w64 (n := (i : Int) + 1) (by omega) (by omega)]
        exact he) (100 - out.length) out (m + 1) rfl (by omega) (by omega) (fun k a b hq => by have := hm.le k hq; omega) h
      refine ⟨r, hr, Ev.at1 ?_⟩
      simp only [rides_Gaps.l0, if_pos (show (i : Int) < (l.length : Int) by omega), if_pos (show (0 : Int) ≤ (i : Int) by omega), rd_at hlt, if_pos hg]
      exact he
    · rw [if_neg hg] at hstep
      have key : ∀ k, hasQ (l.take (i + 1)) g k ↔ hasQ (l.take i) g k := fun k => by
        rw [hasQ_take hlt]
        exact ⟨fun h => h.elim id (fun h => absurd h.1 hg), .inl⟩
      obtain ⟨r, hr, he⟩ := ih (i + 1) m out (by omega) (by omega) hstep ⟨h.ord, fun n hn => ⟨(h.rng n hn).1, (h.rng n hn).2.1, fun hq => (h.rng n hn).2.2 ((key n).1 hq)⟩, h.len, h.all.imp (fun hh n a b c => hh n a b (fun hq => c ((key n).2 hq))) id, fun n hn k a b c => h.down n hn k a b (fun hq => c ((key k).2 hq))⟩
      refine ⟨r, hr, Ev.at1 ?_⟩
      simp only [rides_Gaps.l0, if_pos (show (i : Int) < (l.length : Int) by omega), if_pos (show (0 : Int) ≤ (i : Int) by omega), rd_at hlt, if_neg hg]
      rw [w64 (n := (i : Int) + 1) (by omega) (by omega)]
      exact he
theorem Gaps_spec (l : List S28) (hs : store l) (hl : l.length ≤ 100000) {g M : Int} (hM : Gr l g M) : ∃ r, GapS l g M r ∧ Ev (fun k => rides_Gaps.f k l g) r :=
  Gaps_go l hs hl g M hM l.length 0 0 [] (by omega) (by omega) (by simpa using Gr.nil g) ⟨List.Pairwise.nil, fun n hn => by simp at hn, by simp, .inl (fun n a b => by omega), fun n hn => by simp at hn⟩
end Go.Proofs.Ytgohhekihfilbaa.Rl
