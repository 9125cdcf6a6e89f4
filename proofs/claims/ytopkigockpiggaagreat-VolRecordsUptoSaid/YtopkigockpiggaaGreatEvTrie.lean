/-
  A map from numbers, for the kernel: a binary trie. The functions are recursors: the kernel runs these best.
-/
import GoSem.Dispatch
namespace Go.Ev
inductive T (α : Type) where
  | nil
  | node (l : T α) (v : Option α) (r : T α)
  /-- another one, from n on. -/
  | shift (n : Nat) (t : T α)
noncomputable def T.find {α : Type} (t : T α) (k : Nat) : Option α :=
  T.rec (motive := fun _ => Nat → Option α) (fun _ => none) (fun _ v _ fl fr k => Nat.rec (motive := fun _ => Option α) v (fun m _ => Nat.rec (motive := fun _ => Option α) (fl (Nat.div m 2)) (fun _ _ => fr (Nat.div m 2)) (Nat.mod m 2)) k) (fun n _ f k => f (Nat.add n k)) t k
theorem T.find_nil {α : Type} (k : Nat) : (T.nil : T α).find k = none := rfl
theorem T.find_shift {α : Type} (n : Nat) (t : T α) (k : Nat) : (T.shift n t).find k = t.find (n + k) := rfl
theorem T.find_zero {α : Type} (l r : T α) (v : Option α) : (T.node l v r).find 0 = v := rfl
theorem T.find_succ {α : Type} (l r : T α) (v : Option α) (m : Nat) : (T.node l v r).find (m + 1) = if m % 2 = 0 then l.find (m / 2) else r.find (m / 2) := by
  show Nat.rec (motive := fun _ => Option α) (l.find (m / 2)) (fun _ _ => r.find (m / 2)) (m % 2) = _
  cases m % 2 <;> rfl
/-- a lone path. -/
noncomputable def T.putN {α β : Type} (v : Option α) (n k : Nat) (c : T α → β) : β :=
  Nat.rec (motive := fun _ => Nat → (T α → β) → β) (fun _ c => c .nil) (fun _ f k c => Nat.rec (motive := fun _ => β) (c (.node .nil v .nil)) (fun m _ => Nat.rec (motive := fun _ => β) (f (Nat.div m 2) (fun l => c (.node l none .nil))) (fun _ _ => f (Nat.div m 2) (fun r => c (.node .nil none r))) (Nat.mod m 2)) k) n k c
theorem T.putN_succ {α β : Type} (v : Option α) (n m : Nat) (c : T α → β) : T.putN v (n + 1) (m + 1) c = if m % 2 = 0 then T.putN v n (m / 2) (fun l => c (.node l none .nil)) else T.putN v n (m / 2) (fun r => c (.node .nil none r)) := by
  show Nat.rec (motive := fun _ => β) (T.putN v n (m / 2) (fun l => c (.node l none .nil))) (fun _ _ => T.putN v n (m / 2) (fun r => c (.node .nil none r))) (m % 2) = _
  cases m % 2 <;> rfl
/-- puts (none: takes out), and goes on. -/
noncomputable def T.putK {α β : Type} (v : Option α) (t : T α) (k : Nat) (c : T α → β) : β :=
  T.rec (motive := fun _ => Nat → (T α → β) → β) (fun k c => putN v (Nat.succ k) k c) (fun l o r fl fr k c => Nat.rec (motive := fun _ => β) (c (.node l v r)) (fun m _ => Nat.rec (motive := fun _ => β) (fl (Nat.div m 2) (fun l' => c (.node l' o r))) (fun _ _ => fr (Nat.div m 2) (fun r' => c (.node l o r'))) (Nat.mod m 2)) k) (fun n _ f k c => f (Nat.add n k) (fun t' => c (.shift n t'))) t k c
theorem T.putK_succ {α β : Type} (v : Option α) (l r : T α) (o : Option α) (m : Nat) (c : T α → β) : T.putK v (.node l o r) (m + 1) c = if m % 2 = 0 then T.putK v l (m / 2) (fun l' => c (.node l' o r)) else T.putK v r (m / 2) (fun r' => c (.node l o r')) := by
  show Nat.rec (motive := fun _ => β) (T.putK v l (m / 2) (fun l' => c (.node l' o r))) (fun _ _ => T.putK v r (m / 2) (fun r' => c (.node l o r'))) (m % 2) = _
  cases m % 2 <;> rfl
theorem T.putK_shift {α β : Type} (v : Option α) (n : Nat) (t : T α) (k : Nat) (c : T α → β) : T.putK v (.shift n t) k c = T.putK v t (n + k) (fun t' => c (.shift n t')) := rfl
noncomputable def T.put {α : Type} (t : T α) (k : Nat) (v : Option α) : T α := t.putK v k id
theorem T.putN_eq {α β : Type} (v : Option α) : ∀ (n k : Nat) (c : T α → β), T.putN v n k c = c (T.putN v n k id)
  | 0, _, _ => rfl
  | n + 1, 0, c => rfl
  | n + 1, k + 1, c => by
    rw [T.putN_succ, T.putN_succ]
    split
    · rw [T.putN_eq v n _ (fun l => c (.node l none .nil)), T.putN_eq v n _ (fun l => id (T.node l none T.nil))]; rfl
    · rw [T.putN_eq v n _ (fun r => c (.node .nil none r)), T.putN_eq v n _ (fun r => id (T.node T.nil none r))]; rfl
theorem T.putK_eq {α β : Type} (v : Option α) : ∀ (t : T α) (k : Nat) (c : T α → β), t.putK v k c = c (t.put k v)
  | .nil, k, c => T.putN_eq v (Nat.succ k) k c
  | .node l o r, 0, c => rfl
  | .node l o r, k + 1, c => by
    unfold T.put
    rw [T.putK_succ, T.putK_succ]
    split
    · rw [T.putK_eq v l _ (fun l' => c (.node l' o r)), T.putK_eq v l _ (fun l' => id (T.node l' o r))]; rfl
    · rw [T.putK_eq v r _ (fun r' => c (.node l o r')), T.putK_eq v r _ (fun r' => id (T.node l o r'))]; rfl
  | .shift n t, k, c => by
    unfold T.put
    rw [T.putK_shift, T.putK_shift, T.putK_eq v t (n + k) (fun t' => c (.shift n t')), T.putK_eq v t (n + k) (fun t' => id (T.shift n t'))]
    rfl
theorem T.put_shift {α : Type} (v : Option α) (n : Nat) (t : T α) (k : Nat) : (T.shift n t).put k v = .shift n (t.put (n + k) v) := by
  unfold T.put
  rw [T.putK_shift, T.putK_eq v t (n + k) (fun t' => id (T.shift n t'))]
  rfl
theorem T.find_putN {α : Type} (v : Option α) : ∀ (n k j : Nat), k < n → (T.putN v n k id).find j = if j = k then v else none
  | 0, k, j, h => by omega
  | n + 1, 0, 0, h => rfl
  | n + 1, 0, j + 1, h => by
    show (T.node .nil v .nil).find (j + 1) = _
    rw [T.find_succ]
    show _ = (if j + 1 = 0 then v else none)
    rw [if_neg (Nat.succ_ne_zero j)]
    split <;> rfl
  | n + 1, k + 1, j, h => by
    rw [T.putN_succ]
    have ih := T.find_putN v n (k / 2)
    split
    · rename_i hk
      rw [T.putN_eq]
      cases j with
      | zero => rw [if_neg (show ¬ (0 = k + 1) by omega)]; rfl
      | succ j =>
        simp only [id, T.find_succ]
        split
        · rw [ih (j / 2) (by omega)]
          by_cases e : j = k
          · rw [if_pos (by omega), if_pos (by omega)]
          · rw [if_neg (by omega), if_neg (by omega)]
        · rw [T.find_nil, if_neg (by omega)]
    · rename_i hk
      rw [T.putN_eq]
      cases j with
      | zero => rw [if_neg (show ¬ (0 = k + 1) by omega)]; rfl
      | succ j =>
        simp only [id, T.find_succ]
        split
        · rw [T.find_nil, if_neg (by omega)]
        · rw [ih (j / 2) (by omega)]
          by_cases e : j = k
          · rw [if_pos (by omega), if_pos (by omega)]
          · rw [if_neg (by omega), if_neg (by omega)]
theorem T.find_put {α : Type} (v : Option α) : ∀ (t : T α) (k j : Nat), (t.put k v).find j = if j = k then v else t.find j
  | .nil, k, j => T.find_putN v (Nat.succ k) k j (Nat.lt_succ_self k)
  | .node l o r, 0, 0 => rfl
  | .node l o r, 0, j + 1 => by
    show (T.node l v r).find (j + 1) = _
    rw [if_neg (Nat.succ_ne_zero j), T.find_succ, T.find_succ]
  | .node l o r, k + 1, j => by
    unfold T.put
    rw [T.putK_succ]
    split
    · rename_i hk
      rw [T.putK_eq]
      cases j with
      | zero => rw [if_neg (by omega)]; rfl
      | succ j =>
        simp only [id, T.find_succ]
        rw [T.find_put v l (k / 2) (j / 2)]
        split
        · by_cases e : j = k
          · rw [if_pos (by omega), if_pos (by omega)]
          · rw [if_neg (by omega), if_neg (by omega)]
        · rw [if_neg (by omega)]
    · rename_i hk
      rw [T.putK_eq]
      cases j with
      | zero => rw [if_neg (by omega)]; rfl
      | succ j =>
        simp only [id, T.find_succ]
        rw [T.find_put v r (k / 2) (j / 2)]
        split
        · rw [if_neg (by omega)]
        · by_cases e : j = k
          · rw [if_pos (by omega), if_pos (by omega)]
          · rw [if_neg (by omega), if_neg (by omega)]
  | .shift n t, k, j => by
    rw [T.put_shift, T.find_shift, T.find_shift, T.find_put v t (n + k) (n + j)]
    by_cases e : j = k
    · rw [if_pos (by omega), if_pos e]
    · rw [if_neg (by omega), if_neg e]
end Go.Ev
