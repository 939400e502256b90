/- Netting: transfers that settle positions divide these into groups: with each transfer at most one group less. No program in sight. -/
import Derived.Test.YtdljjkjnlcdhbaaMk
namespace Go.Proofs.Ytdljjkjnlcdhbaa.Lb
open Go.Proofs.Ytdljjkjnlcdhbaa.Mk
set_option linter.unusedSimpArgs false

def os : List Int := [1, 2, 3, 4, 5, 6, 7, 8]
theorem os_nodup : os.Nodup := by decide
theorem os_mem {o : Int} : o ∈ os ↔ 1 ≤ o ∧ o ≤ 8 := by simp [os]; omega
/-- What transfers bring to an operator. -/
def ef {β : Type} (fr go am : β → Int) (T : List β) (o : Int) : Int := sm (fun x => (if go x = o then am x else 0) - (if fr x = o then am x else 0)) T
/-- What positions say of an operator. -/
def bal {α : Type} (op amt : α → Int) (l : List α) (o : Int) : Int := sm (fun s => if op s = o then amt s else 0) l

theorem sub_len {α : Type} [DecidableEq α] : ∀ {a b : List α}, a.Nodup → (∀ x ∈ a, x ∈ b) → a.length ≤ b.length := by
  intro a
  induction a with
  | nil => intro b _ _; simp
  | cons x a ih =>
    intro b hn h
    rw [List.nodup_cons] at hn
    have hx := h x (by simp)
    have := ih (b := b.erase x) hn.2 (fun y hy => (List.mem_erase_of_ne (by rintro rfl; exact hn.1 hy)).2 (h y (by simp [hy])))
    rw [List.length_erase_of_mem hx] at this
    have : 0 < b.length := List.length_pos_of_mem hx
    simp only [List.length_cons]
    omega

variable {α β : Type} {op amt : α → Int} {fr go am : β → Int}

theorem sm_if (c : Int → Nat) (j : Nat) {v : Int} (hv : v ∈ os) (a : Int) : sm (fun o => if c o = j then (if v = o then a else 0) else 0) os = if c v = j then a else 0 := by
  have := sm_at os_nodup hv (fun o => if c o = j then a else 0)
  rw [← this]
  refine sm_congr (fun o _ => ?_)
  by_cases h : c o = j <;> by_cases h' : v = o <;> simp [h, h', eq_comm]
theorem classes (T : List β) (hT : ∀ x ∈ T, fr x ∈ os ∧ go x ∈ os) : ∃ (c : Int → Nat) (js : List Nat), js.Nodup ∧ 8 ≤ js.length + T.length ∧ (∀ o ∈ os, c o ∈ js) ∧ (∀ j ∈ js, ∃ o ∈ os, c o = j) ∧ ∀ j, sm (fun o => if c o = j then ef fr go am T o else 0) os = 0 := by
  induction T with
  | nil =>
    refine ⟨Int.toNat, [1, 2, 3, 4, 5, 6, 7, 8], by decide, Nat.le_add_right 8 _, by decide, by decide, fun j => sm_zero (fun o _ => ?_)⟩
    simp [ef, sm]
  | cons x T ih =>
    obtain ⟨c, js, hn, hl, hc, hu, hz⟩ := ih (fun y hy => hT y (by simp [hy]))
    obtain ⟨hf, ht⟩ := hT x (by simp)
    have split : ∀ (c' : Int → Nat) (j : Nat), sm (fun o => if c' o = j then ef fr go am (x :: T) o else 0) os = (if c' (go x) = j then am x else 0) - (if c' (fr x) = j then am x else 0) + sm (fun o => if c' o = j then ef fr go am T o else 0) os := by
      intro c' j
      rw [← sm_if c' j ht (am x), ← sm_if c' j hf (am x), Int.sub_eq_add_neg, ← sm_neg, ← sm_add, ← sm_add]
      refine sm_congr (fun o _ => ?_)
      by_cases h : c' o = j
      · simp only [h, if_true, ef, sm]; omega
      · simp [h]
    by_cases e : c (fr x) = c (go x)
    · refine ⟨c, js, hn, by simp only [List.length_cons]; omega, hc, hu, fun j => ?_⟩
      rw [split, hz, e]
      omega
    · refine ⟨fun o => if c o = c (fr x) then c (go x) else c o, js.erase (c (fr x)), hn.erase _, ?_, fun o ho => ?_, fun j hj => ?_, fun j => ?_⟩
      · rw [List.length_erase_of_mem (hc _ hf), List.length_cons]; omega
      · by_cases h : c o = c (fr x)
        · simp only [h, if_true]
          exact (List.mem_erase_of_ne (fun h => e h.symm)).2 (hc _ ht)
        · simp only [h, if_false]
          exact (List.mem_erase_of_ne h).2 (hc _ ho)
      · have hne : j ≠ c (fr x) := by rintro rfl; exact hn.not_mem_erase hj
        obtain ⟨o, ho, hoj⟩ := hu j (List.mem_of_mem_erase hj)
        exact ⟨o, ho, by simp only [hoj, hne, if_false]⟩
      · rw [split]
        simp only [if_true, show ¬ (c (go x) = c (fr x)) from fun h => e h.symm, if_false]
        by_cases hj : c (go x) = j
        · subst hj
          have : sm (fun o => if (if c o = c (fr x) then c (go x) else c o) = c (go x) then ef fr go am T o else 0) os = sm (fun o => if c o = c (fr x) then ef fr go am T o else 0) os + sm (fun o => if c o = c (go x) then ef fr go am T o else 0) os := by
            rw [← sm_add]
            refine sm_congr (fun o _ => ?_)
            by_cases h1 : c o = c (fr x)
            · simp [h1, e]
            · have e' : ¬ c (go x) = c (fr x) := fun h => e h.symm
              by_cases h2 : c o = c (go x) <;> simp [h1, h2, e']
          rw [this, hz, hz]
          omega
        · simp only [hj, if_false]
          by_cases hj2 : c (fr x) = j
          · subst hj2
            rw [sm_zero (fun o _ => ?_)]
            · rfl
            · by_cases h1 : c o = c (fr x) <;> simp [h1, hj]
          · have : sm (fun o => if (if c o = c (fr x) then c (go x) else c o) = j then ef fr go am T o else 0) os = sm (fun o => if c o = j then ef fr go am T o else 0) os := by
              refine sm_congr (fun o _ => ?_)
              by_cases h1 : c o = c (fr x)
              · simp [h1, hj, hj2]
              · simp [h1]
            rw [this, hz]
            rfl
/-- Transfers that settle positions: no fewer than the positions less the groups of some division. -/
theorem fewest {T : List β} {L : List α} (hT : ∀ x ∈ T, fr x ∈ os ∧ go x ∈ os) (hn : (L.map op).Nodup) (ho : ∀ x ∈ L, op x ∈ os) (hs : ∀ o ∈ os, ef fr go am T o = bal op amt L o) :
    ∃ k, Parts amt L (2 ^ L.length - 1) k ∧ L.length ≤ k + T.length := by
  obtain ⟨c, js, hjn, hl, hc, hu, hz⟩ := classes (am := am) T hT
  let p : Nat → Bool := fun j => L.any (fun s => decide (c (op s) = j))
  refine ⟨(js.filter p).length, ?_, ?_⟩
  · have h := Parts.labels (f := amt) (l := L) (fun s => c (op s)) (js := js.filter p) (hjn.filter _) (fun j hj => ?_)
    · rw [fm_congr (q := fun _ => true) (fun x hx => ?_), fm_true] at h
      · exact h
      · have : c (op x) ∈ js.filter p := List.mem_filter.2 ⟨hc _ (ho x hx), List.any_eq_true.2 ⟨x, hx, by simp⟩⟩
        simpa using this
    · obtain ⟨hj, hp⟩ := List.mem_filter.1 hj
      obtain ⟨x, hx, hxj⟩ := List.any_eq_true.1 hp
      refine ⟨⟨x, hx, by simpa using hxj⟩, ?_⟩
      have e1 : sm amt (L.filter (fun x => decide (c (op x) = j))) = sm (fun x => if c (op x) = j then amt x else 0) L := by
        rw [← sm_filter (p := fun x => decide (c (op x) = j)) (f := fun x => if c (op x) = j then amt x else 0) (fun y _ hy => if_neg (by simpa using hy))]
        refine sm_congr (fun y hy => ?_)
        have := (List.mem_filter.1 hy).2
        rw [if_pos (by simpa using this)]
      have e2 : sm (fun x => if c (op x) = j then amt x else 0) L = sm (fun o => if c o = j then bal op amt L o else 0) os := by
        have : sm (fun o => if c o = j then bal op amt L o else 0) os = sm (fun o => sm (fun s => if c o = j then (if op s = o then amt s else 0) else 0) L) os := by
          refine sm_congr (fun o _ => ?_)
          by_cases h : c o = j
          · simp only [h, if_true]; rfl
          · simp only [h, if_false]; exact (sm_zero (fun _ _ => rfl)).symm
        rw [this, sm_swap]
        refine sm_congr (fun s hsL => ?_)
        exact (sm_if c j (ho s hsL) (amt s)).symm
      have e3 : sm (fun o => if c o = j then bal op amt L o else 0) os = sm (fun o => if c o = j then ef fr go am T o else 0) os := sm_congr (fun o ho => by rw [hs o ho])
      rw [e1, e2, e3, hz]
  · have h1 : js.length = (js.filter p).length + (js.filter (fun j => !p j)).length := by
      have := List.length_eq_countP_add_countP p (l := js)
      rw [List.countP_eq_length_filter, List.countP_eq_length_filter] at this
      rw [this]
      congr 2
      refine List.filter_congr (fun x _ => ?_)
      cases p x <;> rfl
    have h2 : (js.filter (fun j => !p j)).length ≤ ((os.filter (fun o => !(L.map op).contains o)).map c).length := by
      refine sub_len (hjn.filter _) (fun j hj => ?_)
      obtain ⟨hj, hp⟩ := List.mem_filter.1 hj
      obtain ⟨o, ho', hoj⟩ := hu j hj
      refine List.mem_map.2 ⟨o, List.mem_filter.2 ⟨ho', ?_⟩, hoj⟩
      rw [Bool.not_eq_true'] at hp ⊢
      by_cases h : o ∈ L.map op
      · obtain ⟨s, hs', rfl⟩ := List.mem_map.1 h
        have : p j = true := List.any_eq_true.2 ⟨s, hs', by simpa using hoj⟩
        rw [this] at hp
        cases hp
      · simpa using h
    have h3 : os.length = (os.filter (fun o => (L.map op).contains o)).length + (os.filter (fun o => !(L.map op).contains o)).length := by
      have := List.length_eq_countP_add_countP (fun o => (L.map op).contains o) (l := os)
      rw [List.countP_eq_length_filter, List.countP_eq_length_filter] at this
      rw [this]
      congr 2
      refine List.filter_congr (fun x _ => ?_)
      cases (L.map op).contains x <;> rfl
    have h4 : (L.map op).length ≤ (os.filter (fun o => (L.map op).contains o)).length :=
      sub_len hn (fun o ho' => by
        obtain ⟨s, hs', rfl⟩ := List.mem_map.1 ho'
        exact List.mem_filter.2 ⟨ho s hs', by simpa using ⟨s, hs', rfl⟩⟩)
    have h5 : os.length = 8 := rfl
    rw [List.length_map] at h2 h4
    omega
end Go.Proofs.Ytdljjkjnlcdhbaa.Lb
