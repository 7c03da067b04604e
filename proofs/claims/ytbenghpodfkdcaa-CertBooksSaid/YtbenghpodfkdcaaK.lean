/- Small words for what a call keeps and owns: frames by sets of blocks. Plain laws, no program in sight. -/
import Derived.Below
import Derived.Maps.AppendAt
import Derived.Deep.AppendLies
import Derived.Laws.Tables
import Derived.Laws.AppendOwnNone
import Derived.Laws.Rows
import Derived.OwnWalk
import Derived.WalkKit
import Derived.WalkSpells
import Derived.WalkLawsBesides
namespace Go.Proofs.Ytbenghpodfkdcaa
open Go.RowKit

/-- A fact that the walk's simp does not look into. -/
structure Asd (p : Prop) : Prop where mk :: (out : p)

/-- Of w's blocks all but those of S lie as they lay. -/
structure Kp (S : Nat → Prop) (w w' : World) : Prop where
  os : w'.os = w.os
  tape : w'.tape = w.tape
  output : w'.output = w.output
  size : w.heap.size ≤ w'.heap.size
  block : ∀ k, k < w.heap.size → ¬ S k → w'.heap[k]? = w.heap[k]?

def No : Nat → Prop := fun _ => False
def Only (g : Nat) : Nat → Prop := fun k => k = g

namespace Kp
variable {S S1 S2 : Nat → Prop} {w w1 w2 : World}
theorem refl (S : Nat → Prop) (w : World) : Kp S w w := ⟨rfl, rfl, rfl, Nat.le_refl _, fun _ _ _ => rfl⟩
theorem trans (h : Kp S w w1) (k : Kp S1 w1 w2) (hs : ∀ k, S1 k → S k ∨ w.heap.size ≤ k) : Kp S w w2 :=
  ⟨k.os.trans h.os, k.tape.trans h.tape, k.output.trans h.output, Nat.le_trans h.size k.size,
    fun i hi hn => (k.block i (Nat.lt_of_lt_of_le hi h.size) (fun h1 => (hs i h1).elim hn (fun h2 => by omega))).trans (h.block i hi hn)⟩
theorem then_ (h : Kp S w w1) (k : Kp S w1 w2) : Kp S w w2 := h.trans k (fun _ h => .inl h)
theorem mono (h : Kp S w w1) (hs : ∀ k, S k → S1 k ∨ w.heap.size ≤ k) : Kp S1 w w1 :=
  ⟨h.os, h.tape, h.output, h.size, fun i hi hn => h.block i hi (fun h1 => (hs i h1).elim hn (fun h2 => by omega))⟩
theorem drew (h : Kp S w w1) : Kp S w w1.drew := ⟨h.os, h.tape, h.output, h.size, h.block⟩
theorem drewN (h : Kp S w w1) (n : Nat) : Kp S w (w1.drewN n) := ⟨h.os, h.tape, h.output, h.size, h.block⟩
theorem alloc (h : Kp S w w1) (o : Obj) : Kp S w (w1.alloc o) :=
  h.then_ ⟨rfl, rfl, rfl, by simp, fun k hk _ => Below.heap_alloc _ _ _ hk⟩
theorem setCell (h : Kp S w w1) {p : Addr} (hp : S p.block ∨ w.heap.size ≤ p.block) (u : Value) : Kp S w (w1.setCell p u) :=
  h.trans (S1 := Only p.block) ⟨rfl, rfl, rfl, by simp [World.setCell], fun k _ hn => Below.heap_setCell w1 p u k hn⟩ (fun k hk => by rw [hk]; exact hp)
theorem grown {row : Option Nat} (h : Kp S w w1) (hg : w1.grownBy w2 row) (hr : ∀ k, row = some k → S k ∨ w.heap.size ≤ k) : Kp S w w2 :=
  h.trans (S1 := fun k => row = some k) ⟨hg.os, hg.tape, hg.output, hg.size, fun k hk hn => hg.block k hk (fun e => hn e.symm)⟩ hr
theorem of_grown {row : Option Nat} (hg : w.grownBy w2 row) (hr : ∀ k, row = some k → S k ∨ w.heap.size ≤ k) : Kp S w w2 := (refl S w).grown hg hr
theorem of_below (h : Below w.heap.size w w1) : Kp S w w1 := ⟨h.os, h.tape, h.output, h.size, fun k hk _ => h.block k hk⟩
theorem below {B : Nat} (h : Kp S w w1) (hB : B ≤ w.heap.size) (hs : ∀ k, S k → B ≤ k) : Below B w w1 :=
  ⟨h.os, h.tape, h.output, h.size, fun k hk => h.block k (by omega) (fun h1 => by have := hs k h1; omega)⟩
theorem no_below (h : Kp No w w1) : Below w.heap.size w w1 := h.below (Nat.le_refl _) (fun _ h => h.elim)
theorem no_grown (h : Kp No w w1) (row : Option Nat) : w.grownBy w1 row := ⟨h.os, h.tape, h.output, h.size, fun k hk _ => h.block k hk (fun h => h)⟩
theorem blk {g : Nat} {o : Obj} (h : Kp S w w1) (hb : w.heap[g]? = some o) (hn : ¬ S g) : w1.heap[g]? = some o :=
  (h.block g (Array.getElem?_eq_some_iff.1 hb).1 hn).trans hb
theorem cell {a : Addr} {v : Value} (h : Kp S w w1) (hc : w.cell? a = some v) (hn : ¬ S a.block) : w1.cell? a = some v :=
  (World.cell?_of_block (h.block a.block (World.block_lt_of_cell? w a hc) hn)).trans hc
theorem own {base : Nat} {e : TypeId} {size n : Nat} {v : Value} {xs : List Value} (h : Kp S w w1) (ho : w.ownsRow base e size v n xs)
    (hn : ∀ k, v.ownBlock = some k → ¬ S k) : w1.ownsRow base e size v n xs := by
  refine ⟨ho.1, ?_⟩
  rcases ho.2 with h1 | ⟨g, cap, cur, rfl, hb, hg, r⟩
  · exact .inl h1
  · exact .inr ⟨g, cap, cur, rfl, hb, h.blk hg (hn g rfl), r⟩
end Kp

theorem own_base0 {w : World} {base : Nat} {e : TypeId} {size n : Nat} {v : Value} {xs : List Value} (h : w.ownsRow base e size v n xs) : w.ownsRow 0 e size v n xs := by
  refine ⟨h.1, ?_⟩
  rcases h.2 with h1 | ⟨g, cap, cur, rfl, hb, hg, r⟩
  · exact .inl h1
  · exact .inr ⟨g, cap, cur, rfl, Nat.zero_le _, hg, r⟩

theorem blk_lt {w : World} {g : Nat} {o : Obj} (h : w.heap[g]? = some o) : g < w.heap.size := (Array.getElem?_eq_some_iff.1 h).1
theorem blk_cell {w : World} {g : Nat} {t : TypeId} {cs : Array Value} (h : w.heap[g]? = some (.cells cs t (0, 0))) (i : Nat) : w.cell? ⟨g, i, none⟩ = cs[i]? := cell_of_row w g i cs t (0, 0) h
theorem blk_frozen {w : World} {g : Nat} {t : TypeId} {cs : Array Value} (h : w.heap[g]? = some (.cells cs t (0, 0))) (i : Nat) : w.frozen? ⟨g, i, none⟩ = false := by simp [World.frozen?, h]
theorem blk_set {w : World} {g : Nat} {t : TypeId} {cs : Array Value} (h : w.heap[g]? = some (.cells cs t (0, 0))) (i : Nat) (u : Value) :
    (w.setCell ⟨g, i, none⟩ u).heap[g]? = some (.cells (cs.setIfInBounds i u) t (0, 0)) := by
  simp [World.setCell, h, Array.getElem?_modify]
theorem blk_new (w : World) (o : Obj) : (w.alloc o).heap[w.heap.size]? = some o := heap_alloc_new w o
theorem blk_alloc {w : World} {g : Nat} {o : Obj} (h : w.heap[g]? = some o) (o' : Obj) : (w.alloc o').heap[g]? = some o := (Below.heap_alloc w o' g (blk_lt h)).trans h
theorem blk_far {w : World} {g : Nat} {o : Obj} (h : w.heap[g]? = some o) {p : Addr} (hp : g ≠ p.block) (u : Value) : (w.setCell p u).heap[g]? = some o :=
  (Below.heap_setCell w p u g hp).trans h

/-- Numbers of one kind, as cells. -/
def nums (k : IntKind) (xs : List Int) : List Value := xs.map fun x => .int k x
theorem nums_length (k : IntKind) (xs : List Int) : (nums k xs).length = xs.length := by simp [nums]
theorem nums_append (k : IntKind) (xs ys : List Int) : nums k (xs ++ ys) = nums k xs ++ nums k ys := by simp [nums]
theorem own_len (A : Option Addr) (n c m d : Nat) : (Value.slice A n c).ownBlock = (Value.slice A m d).ownBlock := by cases A <;> rfl
theorem nums_drop (k : IntKind) (xs : List Int) (m : Nat) : nums k (xs.drop m) = (nums k xs).drop m := by simp [nums, List.map_drop]
theorem nums_one (k : IntKind) (xs : List Int) : ∀ u ∈ nums k xs, u.oneCell' = true := by
  intro u hu
  simp only [nums, List.mem_map] at hu
  obtain ⟨x, _, rfl⟩ := hu
  rfl

/-- append of one element's cells (laid in block b of their own), as one step of a region that draws. -/
theorem step_append_new {P : Program} {ops : Array Oper} {o : Oper} {a : Act} {Q : Exit → Act → World → Prop} {K : Act → World → Prop} {E : Prop} {W : World}
    (hgd : o.guard = none) (s x : Operand) (t e : TypeId) (z : Value) (size bytes : Nat)
    (ho : o.op = .call { callee := .builtin .append, args := #[s, x], argTypes := #[t, t] })
    (ht : P.underlying t = some (.slice e)) (hinfo : (P.info? e).map (fun i => (i.zero, i.size, i.bytes)) = some (some z, size, bytes)) (hz : z.cells.size = size) (hs0 : 0 < size) (hb0 : 0 < bytes)
    (v : Value) (n : Nat) (xs : List Value) (b m c : Nat) (ys : List Value) (hs : a.eval s = v) (hx : a.eval x = .slice (some ⟨b, 0, none⟩) m c) (hb : W.heap[b]? = some (.cells ys.toArray e (0, 0))) (hys : ys.length = m * size) (h1 : ∀ u ∈ ys, u.oneCell' = true)
    (HO : W.ownsRow 0 e size v n xs) (hl : (n + m) * bytes ≤ 140737488355328) (hm : 0 < m)
    (h : ∀ v1 w1, w1.ownsRow 0 e size v1 (n + m) (xs ++ ys) → W.grownBy w1 v.ownBlock → (v1.ownBlock = v.ownBlock ∨ v1.ownBlock = some W.heap.size) → (∃ A c, v1 = .slice (some A) (n + m) c) → K (a.put o.dst v1) w1) :
    if Region.wanted o (yielded ops a.tmps) = true then Oper.wp P o a W K Q else E := by
  obtain ⟨i0, hi, hzz⟩ := Option.map_eq_some_iff.1 hinfo
  simp only [Prod.mk.injEq] at hzz
  obtain ⟨hz0, hz1, hz2⟩ := hzz
  have hlen : n + m ≤ 140737488355328 := Nat.le_trans (Nat.le_mul_of_pos_right _ hb0) hl
  have hw : Region.wanted o (yielded ops a.tmps) = true := by simp [Region.wanted, hgd]
  rw [if_pos hw]
  obtain ⟨v1, w1, hr, hown, hg, _, hat⟩ := run_append_own_at (P := P) W 0 t o.type e i0 z size bytes ht hi hz0 hz1 hz2 hz hs0 v n xs HO ⟨b, 0, none⟩ m c ys hys
    (by simpa using World.news_of_block (cs := ys.toArray) (t := e) (fr := (0, 0)) hb) h1 (by simp only [maxLen]; omega) hl (by simp)
  unfold Oper.wp execOp
  simp only [ho, resolve, invoke, builtin, Sem.run_bind, Sem.run_pure, Result.andThen_ok, List.map_toArray, List.map_cons, List.map_nil, hs, hx, hr]
  have hsh : ∃ A c, v1 = .slice (some A) (n + m) c := by
    rcases hown.2 with ⟨_, h0⟩ | ⟨g, cap, cur, hv, _⟩
    · omega
    · exact ⟨_, _, hv⟩
  exact h v1 w1 hown hg hat hsh

/-- What a call that may write the blocks of S leaves: all else as it was; what it owns now lies in S or is new. -/
def Upd (S : Nat → Prop) (w w' : World) (Q : (Nat → Prop) → Prop) : Prop := Kp S w w' ∧ ∃ S', Q S' ∧ ∀ k, S' k → S k ∨ w.heap.size ≤ k
theorem Upd.same {S : Nat → Prop} {w : World} {Q : (Nat → Prop) → Prop} (h : Q S) : Upd S w w Q := ⟨Kp.refl _ _, S, h, fun _ h => .inl h⟩
theorem Upd.trans {S : Nat → Prop} {w w1 w2 : World} {Q1 Q2 : (Nat → Prop) → Prop} (h : Upd S w w1 Q1) (k : ∀ S1, Q1 S1 → Upd S1 w1 w2 Q2) : Upd S w w2 Q2 := by
  obtain ⟨h1, S1, hq, hs⟩ := h
  obtain ⟨h2, S2, hq2, hs2⟩ := k S1 hq
  exact ⟨h1.trans h2 hs, S2, hq2, fun k hk => (hs2 k hk).elim (hs k) (fun h => .inr (Nat.le_trans h1.size h))⟩
theorem Upd.imp {S : Nat → Prop} {w w1 : World} {Q1 Q2 : (Nat → Prop) → Prop} (h : Upd S w w1 Q1) (k : ∀ S1, Q1 S1 → Q2 S1) : Upd S w w1 Q2 := by
  obtain ⟨h1, S1, hq, hs⟩ := h
  exact ⟨h1, S1, k _ hq, hs⟩

/-- A struct of one block whose one slice is its own: g: its block, mk: its cells, S: what belongs to it. -/
def Own1 (w : World) (S : Nat → Prop) (g : Nat) (t : TypeId) (mk : Value → Array Value) (e : TypeId) (size n : Nat) (xs : List Value) : Prop :=
  ∃ v, w.heap[g]? = some (.cells (mk v) t (0, 0)) ∧ w.ownsRow 0 e size v n xs ∧ S g ∧ (∀ k, v.ownBlock = some k → S k ∧ k ≠ g) ∧ ∀ k, S k → k < w.heap.size
theorem Own1.kept {w w1 : World} {S T : Nat → Prop} {g : Nat} {t : TypeId} {mk : Value → Array Value} {e : TypeId} {size n : Nat} {xs : List Value}
    (h : Own1 w S g t mk e size n xs) (hk : Kp T w w1) (hd : ∀ k, S k → ¬ T k) : Own1 w1 S g t mk e size n xs := by
  obtain ⟨v, hg, ho, hs, hv, hl⟩ := h
  exact ⟨v, hk.blk hg (hd g hs), hk.own ho (fun k hk => hd k (hv k hk).1), hs, hv, fun k h => Nat.lt_of_lt_of_le (hl k h) hk.size⟩
/-- Behind an append whose value is stored into the struct's cell i. -/
theorem Own1.stored {w W w1 : World} {S : Nat → Prop} {g : Nat} {t : TypeId} {mk : Value → Array Value} {e : TypeId} {size m : Nat} {ys : List Value} {v v1 : Value} {i : Nat}
    (hg : w.heap[g]? = some (.cells (mk v) t (0, 0))) (hS : S g) (hv : ∀ k, v.ownBlock = some k → S k ∧ k ≠ g) (hl : ∀ k, S k → k < w.heap.size)
    (hW : Kp No w W) (ho1 : w1.ownsRow 0 e size v1 m ys) (hg1 : W.grownBy w1 v.ownBlock) (hat : v1.ownBlock = v.ownBlock ∨ v1.ownBlock = some W.heap.size)
    (hmk : ∀ u, (mk v).setIfInBounds i u = mk u) : Upd S w (w1.setCell ⟨g, i, none⟩ v1) (fun S' => Own1 (w1.setCell ⟨g, i, none⟩ v1) S' g t mk e size m ys) := by
  have hk1 : Kp S w w1 := (hW.mono (fun _ h => h.elim)).grown hg1 (fun k hk => .inl (hv k hk).1)
  have hgw : g < w.heap.size := blk_lt hg
  have hb : w1.heap[g]? = some (.cells (mk v) t (0, 0)) := (hg1.block g (Nat.lt_of_lt_of_le hgw hW.size) (fun h => (hv g h.symm).2 rfl)).trans (hW.blk hg (fun h => h))
  have hne : ∀ k, v1.ownBlock = some k → k ≠ g ∧ (S k ∨ w.heap.size ≤ k) ∧ k < w1.heap.size := by
    intro k hk
    refine ⟨?_, ?_, (ho1.lt k hk).2⟩
    · rcases hat with h | h
      · exact (hv k (h.symm.trans hk)).2
      · rw [h] at hk
        injection hk with hk
        have := hW.size
        omega
    · rcases hat with h | h
      · exact .inl (hv k (h.symm.trans hk)).1
      · rw [h] at hk
        injection hk with hk
        have := hW.size
        exact .inr (by omega)
  have hsz : (w1.setCell ⟨g, i, none⟩ v1).heap.size = w1.heap.size := by simp [World.setCell]
  refine ⟨hk1.setCell (.inl hS) _, fun k => S k ∨ v1.ownBlock = some k, ⟨v1, ?_, ?_, .inl hS, fun k hk => ⟨.inr hk, (hne k hk).1⟩, ?_⟩, ?_⟩
  · rw [blk_set hb i v1, hmk]
  · refine (Kp.setCell (S := Only g) (Kp.refl _ w1) (p := ⟨g, i, none⟩) (.inl rfl) v1).own ho1 (fun k hk h => (hne k hk).1 h)
  · rintro k (h | h)
    · rw [hsz]; exact Nat.lt_of_lt_of_le (hl k h) hk1.size
    · rw [hsz]; exact (hne k h).2.2
  · rintro k (h | h)
    · exact .inl h
    · exact (hne k h).2.1

/-- A slice value of n elements whose cells read as xs. -/
def Rc (w : World) (v : Value) (n size : Nat) (xs : List Value) : Prop :=
  xs.length = n * size ∧ ∃ A c, v = .slice A n c ∧ n ≤ c ∧ (A = none → n = 0 ∧ c = 0) ∧ ∀ ad, A = some ad → ∀ j u, xs[j]? = some u → w.cell? (ad.add j) = some u
theorem Rc.kept {w w1 : World} {S : Nat → Prop} {v : Value} {n size : Nat} {xs : List Value} (h : Rc w v n size xs) (hk : Kp S w w1) (hn : ∀ k, v.ownBlock = some k → ¬ S k) : Rc w1 v n size xs := by
  obtain ⟨h1, A, c, rfl, h2, h3, h4⟩ := h
  refine ⟨h1, A, c, rfl, h2, h3, ?_⟩
  rintro ad rfl j u hu
  refine hk.cell (h4 ad rfl j u hu) ?_
  have : (ad.add j).block = ad.block := by unfold Addr.add; split <;> rfl
  rw [this]
  exact hn _ rfl
theorem Rc.no {w w1 : World} {v : Value} {n size : Nat} {xs : List Value} (h : Rc w v n size xs) (hk : Kp No w w1) : Rc w1 v n size xs := h.kept hk (fun _ _ h => h)
theorem own_rc {w : World} {base : Nat} {e : TypeId} {size n : Nat} {v : Value} {xs : List Value} (h : w.ownsRow base e size v n xs) : Rc w v n size xs := by
  refine ⟨h.1, ?_⟩
  rcases h.2 with ⟨rfl, rfl⟩ | ⟨g, cap, cur, rfl, _, hg, hc, _⟩
  · exact ⟨none, 0, rfl, Nat.le_refl _, fun _ => ⟨rfl, rfl⟩, fun ad h => by cases h⟩
  · refine ⟨_, cap, rfl, hc, fun h => (by cases h), ?_⟩
    rintro ad had j u hu
    cases had
    exact h.cells (g := g) rfl j u hu

/-- append of whatever cells to what the call owns, where it stands alone. -/
theorem wp_append_rc {P : Program} {ops : Array Oper} {rest : List Oper} {o : Oper} {a : Act} {Q : Exit → Act → World → Prop} {W : World} (hgd : o.guard = none) (s x : Operand) (t e : TypeId) (z : Value) (size bytes : Nat)
    (ho : o.op = .call { callee := .builtin .append, args := #[s, x], argTypes := #[t, t] })
    (ht : P.underlying t = some (.slice e)) (hinfo : (P.info? e).map (fun i => (i.zero, i.size, i.bytes)) = some (some z, size, bytes)) (hz : z.cells.size = size) (hs0 : 0 < size) (hb0 : 0 < bytes)
    (base : Nat) (v : Value) (n : Nat) (xs : List Value) (m : Nat) (A : Option Addr) (c : Nat) (ys : List Value) (hs : a.eval s = v) (hx : a.eval x = .slice A m c) (hr : Rc W (.slice A m c) m size ys) (h1 : ∀ u ∈ ys, u.oneCell' = true)
    (HO : W.ownsRow base e size v n xs) (hbase : base ≤ W.heap.size) (hl : (n + m) * bytes ≤ 140737488355328)
    (h : ∀ v1 w1, w1.ownsRow base e size v1 (n + m) (xs ++ ys) → W.grownBy w1 v.ownBlock → (v1.ownBlock = v.ownBlock ∨ v1.ownBlock = some W.heap.size) → (∃ A c, v1 = .slice A (n + m) c) → wpList P ops Q rest (a.put o.dst v1) w1) :
    wpList P ops Q (o :: rest) a W := by
  obtain ⟨i0, hi, hzz⟩ := Option.map_eq_some_iff.1 hinfo
  simp only [Prod.mk.injEq] at hzz
  obtain ⟨hz0, hz1, hz2⟩ := hzz
  have hlen : n + m ≤ 140737488355328 := Nat.le_trans (Nat.le_mul_of_pos_right _ hb0) hl
  obtain ⟨hys, A', c', hv, _, hnil, hcs⟩ := hr
  cases hv
  have hshape : ∀ (v1 : Value) (w1 : World), w1.ownsRow base e size v1 (n + m) (xs ++ ys) → ∃ A c, v1 = .slice A (n + m) c := by
    intro v1 w1 ho1
    rcases ho1.2 with ⟨hv, h0⟩ | ⟨g, cap, cur, hv, _⟩
    · exact ⟨none, 0, by rw [hv, h0]⟩
    · exact ⟨_, _, hv⟩
  cases A with
  | none =>
    obtain ⟨rfl, rfl⟩ := hnil rfl
    have hy : ys = [] := List.eq_nil_of_length_eq_zero (by omega)
    subst hy
    have HO' : W.ownsRow base e size v (n + 0) (xs ++ []) := by rw [List.append_nil]; exact HO
    exact wpList_append_own_none hgd s x t ho base e i0 size ht hi v n xs hs HO hx (h v W HO' ⟨rfl, rfl, rfl, Nat.le_refl _, fun _ _ _ => rfl⟩ (.inl rfl) (hshape v W HO'))
  | some ad =>
    refine wpList_append_own_at W hgd s x t ho base e i0 z size bytes ht hi hz0 hz1 hz2 hz hs0 v n xs hs HO ad m c ys hx hys (hcs ad rfl) h1 (by simp only [maxLen]; omega) hl hbase ?_
    intro v1 w1 ho1 hg1 _ hat
    exact h v1 w1 ho1 hg1 hat (hshape v1 w1 ho1)

theorem rc_block {w : World} {b : Nat} {cs : Array Value} {e : TypeId} {m size : Nat} (hb : w.heap[b]? = some (.cells cs e (0, 0))) (hs : cs.size = m * size) : Rc w (.slice (some ⟨b, 0, none⟩) m m) m size cs.toList := by
  refine ⟨by simpa using hs, _, m, rfl, Nat.le_refl _, fun h => (by cases h), ?_⟩
  rintro ad had
  cases had
  exact World.news_of_block hb

/-- append of a literal slice (its cells lie in block b) to what the call owns, where it stands alone. -/
theorem wp_append_lit {P : Program} {ops : Array Oper} {rest : List Oper} {o : Oper} {a : Act} {Q : Exit → Act → World → Prop} {W : World} (hgd : o.guard = none) (s x : Operand) (t e : TypeId) (z : Value) (size bytes : Nat)
    (ho : o.op = .call { callee := .builtin .append, args := #[s, x], argTypes := #[t, t] })
    (ht : P.underlying t = some (.slice e)) (hinfo : (P.info? e).map (fun i => (i.zero, i.size, i.bytes)) = some (some z, size, bytes)) (hz : z.cells.size = size) (hs0 : 0 < size) (hb0 : 0 < bytes)
    (base : Nat) (v : Value) (n : Nat) (xs : List Value) (m b : Nat) (cs : Array Value) (hs : a.eval s = v) (hx : a.eval x = .slice (some ⟨b, 0, none⟩) m m) (hb : W.heap[b]? = some (.cells cs e (0, 0))) (hcs : cs.size = m * size) (h1 : ∀ u ∈ cs.toList, u.oneCell' = true)
    (HO : W.ownsRow base e size v n xs) (hbase : base ≤ W.heap.size) (hl : (n + m) * bytes ≤ 140737488355328)
    (h : ∀ v1 w1, w1.ownsRow base e size v1 (n + m) (xs ++ cs.toList) → W.grownBy w1 v.ownBlock → (v1.ownBlock = v.ownBlock ∨ v1.ownBlock = some W.heap.size) → (∃ A c, v1 = .slice A (n + m) c) → wpList P ops Q rest (a.put o.dst v1) w1) :
    wpList P ops Q (o :: rest) a W :=
  wp_append_rc hgd s x t e z size bytes ho ht hinfo hz hs0 hb0 base v n xs m (some ⟨b, 0, none⟩) m cs.toList hs hx (rc_block hb hcs) h1 HO hbase hl h
theorem own_low {w : World} {b base n size : Nat} {e : TypeId} {v : Value} {xs : List Value} (h : w.ownsRow base e size v n xs) (hb : b ≤ base) : w.ownsRow b e size v n xs := by
  refine ⟨h.1, ?_⟩
  rcases h.2 with h1 | ⟨g, cap, cur, rfl, hg, r⟩
  · exact .inl h1
  · exact .inr ⟨g, cap, cur, rfl, Nat.le_trans hb hg, r⟩
theorem own_slice {w : World} {base n size : Nat} {e : TypeId} {v : Value} {xs : List Value} (h : w.ownsRow base e size v n xs) : ∃ A c, v = .slice A n c := by
  rcases h.2 with ⟨hv, h0⟩ | ⟨g, cap, cur, hv, _⟩
  · exact ⟨none, 0, by rw [hv, h0]⟩
  · exact ⟨_, _, hv⟩

theorem addr_add_add (a : Addr) (m n : Nat) : (a.add m).add n = a.add (m + n) := by
  unfold Addr.add
  by_cases h1 : m = 0 <;> by_cases h2 : n = 0 <;> simp [h1, h2, Nat.add_assoc]
theorem addr_add_block (a : Addr) (m : Nat) : (a.add m).block = a.block := by unfold Addr.add; split <;> rfl
/-- The address at which v[m:] begins. -/
def cutA (A : Option Addr) (c m : Nat) : Option Addr := if c = m then A else A.map (·.add m)
theorem cutA_block (A : Option Addr) (n c m n' c' : Nat) : (Value.slice (cutA A c m) n' c').ownBlock = (Value.slice A n c).ownBlock := by
  unfold cutA
  split
  · cases A <;> rfl
  · cases A with
    | none => rfl
    | some a => simp [Value.ownBlock, addr_add_block]
theorem Rc.drop {w : World} {A : Option Addr} {n c size : Nat} {xs : List Value} (h : Rc w (.slice A n c) n size xs) (m : Nat) (hm : m ≤ n) (hs : size = 1) : Rc w (.slice (cutA A c m) (n - m) (c - m)) (n - m) size (xs.drop m) := by
  obtain ⟨h1, A', c', hv, h2, h3, h4⟩ := h
  cases hv
  subst hs
  refine ⟨by simp; omega, cutA A c m, c - m, rfl, by omega, ?_, ?_⟩
  · intro h
    unfold cutA at h
    split at h
    · have := h3 h; omega
    · have := h3 (by simpa using h); omega
  · intro ad had j u hu
    have hj : j < xs.length - m := by
      have := (List.getElem?_eq_some_iff.1 hu).1
      simpa using this
    unfold cutA at had
    split at had
    · omega
    · cases A with
      | none => cases had
      | some a =>
        simp at had
        subst had
        rw [addr_add_add]
        refine h4 a rfl (m + j) u ?_
        simpa [List.getElem?_drop] using hu

theorem Kp.setRow {S : Nat → Prop} {w w1 : World} {g : Nat} (h : Kp S w w1) (hp : S g ∨ w.heap.size ≤ g) (cs : Array Value) : Kp S w (w1.setRow g cs) :=
  h.trans (S1 := Only g) ⟨rfl, rfl, rfl, by simp, fun k _ hn => setRow_other w1 g k cs hn⟩ (fun k hk => by rw [hk]; exact hp)

/-- Results of which the first lies in memory. -/
theorem results_ct {P : Program} {fn : Func} {p u : Tmp} {ty : TypeId} (h : fn.results = #[.cell p ty, .tmp u]) (tmps : Array Value) (w : World) (g : Nat) (t : TypeId) (cs : Array Value) (fr : Nat × Nat) (d : TypeDesc) (x : Value) (hx : tmps.getD u undef = x)
    (hp : tmps.getD p undef = .pointer (some ⟨g, 0, none⟩)) (hg : w.heap[g]? = some (.cells cs t fr))
    (hu : P.underlying ty = some d) (hd : (match d with | .struct _ | .array _ _ => true | _ => false) = true) (hi : (P.info? ty).map (·.size) = some cs.size) :
    (results fn tmps).run P w = .ok (.tuple #[.agg cs, x]) w := by
  subst hx
  have hp' : tmps[p]?.getD undef = .pointer (some ⟨g, 0, none⟩) := by simpa using hp
  simp [results, h, hp', asAddr, run_loadVar_row w g t ty cs fr d hg hu hd hi]

/-- An operation whose guard wants it: the same without the guard. -/
theorem ungate {P : Program} {ops : Array Oper} {rest : List Oper} {o : Oper} {a : Act} {Q : Exit → Act → World → Prop} {W : World}
    (hw : Region.wanted o (yielded ops a.tmps) = true) (h : wpList P ops Q ({ o with guard := none } :: rest) a W) : wpList P ops Q (o :: rest) a W := by
  have h1 : Region.wanted { o with guard := none } (yielded ops a.tmps) = true := rfl
  unfold wpList at h ⊢
  rw [if_pos h1] at h
  rw [if_pos hw]
  exact h

/-- A struct or array read at an address: its cells one by one. -/
theorem run_loadVar_at {P : Program} (w : World) (ad : Addr) (ty : TypeId) (cs : List Value) (d : TypeDesc) (hc : ∀ j v, cs[j]? = some v → w.cell? (ad.add j) = some v)
    (hu : P.underlying ty = some d) (hd : (match d with | .struct _ | .array _ _ => true | _ => false) = true) (hi : (P.info? ty).map (·.size) = some cs.length) :
    (loadVar ty ad).run P w = .ok (.agg cs.toArray) w := by
  have hl : (loadCells ad cs.length).run P w = .ok cs.toArray w := run_loadCells_list (P := P) w ad cs hc
  cases hq : P.info? ty with
  | none => simp [hq] at hi
  | some i =>
    have hs : i.size = cs.length := by simpa [hq] using hi
    have hagg : (isAgg ty).run P w = .ok true w := by
      unfold isAgg
      rw [Sem.run_bind, run_underlying hu w]
      cases d <;> simp_all
    simp [loadVar, Sem.run_bind, hagg, sizeOf, typeInfo, hq, hs, hl]
theorem wpList_load_at {P : Program} {ops : Array Oper} {rest : List Oper} {o : Oper} {a : Act} {w : World} {Q : Exit → Act → World → Prop} (hgd : o.guard = none) (ty : TypeId) (x : Operand) (ho : o.op = .load ty x)
    (ad : Addr) (hx : a.eval x = .pointer (some ad)) (cs : List Value) (d : TypeDesc) (hc : ∀ j v, cs[j]? = some v → w.cell? (ad.add j) = some v)
    (hu : P.underlying ty = some d) (hd : (match d with | .struct _ | .array _ _ => true | _ => false) = true) (hi : (P.info? ty).map (·.size) = some cs.length)
    (h : wpList P ops Q rest (a.put o.dst (.agg cs.toArray)) w) : wpList P ops Q (o :: rest) a w := by
  refine wpList_plain hgd fun _ hK => ?_
  unfold Oper.wp execOp
  simp only [ho, hx, Instr.loadAt, Instr.sureAddr, Sem.run_bind, Sem.run_pure, Result.andThen_ok, run_loadVar_at w ad ty cs d hc hu hd hi]
  exact hK _ _ h

/-- Rows of numbers, one behind the other. -/
def flat (ls : List (List Int)) : List Value := ls.flatMap (nums .i64)
theorem flat_length (ls : List (List Int)) (z : Nat) (h : ∀ l ∈ ls, l.length = z) : (flat ls).length = ls.length * z := by
  induction ls with
  | nil => simp [flat]
  | cons l ls ih =>
    have h1 := ih (fun x hx => h x (by simp [hx]))
    have h2 := h l (by simp)
    simp only [flat, List.flatMap_cons, List.length_append, nums_length, List.length_cons] at h1 ⊢
    rw [h1, h2, Nat.add_mul]
    omega
theorem flat_append (a b : List (List Int)) : flat (a ++ b) = flat a ++ flat b := by simp [flat]
theorem flat_one (ls : List (List Int)) : ∀ u ∈ flat ls, u.oneCell' = true := by
  intro u hu
  simp only [flat, List.mem_flatMap] at hu
  obtain ⟨l, _, h⟩ := hu
  exact nums_one _ _ u h
theorem flat_get (ls : List (List Int)) (z : Nat) (h : ∀ l ∈ ls, l.length = z) (i : Nat) (hi : i < ls.length) (j : Nat) (hj : j < z) : (flat ls)[i * z + j]? = (nums .i64 ls[i])[j]? := by
  induction ls generalizing i with
  | nil => simp at hi
  | cons l ls ih =>
    have h2 := h l (by simp)
    have e : flat (l :: ls) = nums .i64 l ++ flat ls := by simp [flat]
    rw [e]
    cases i with
    | zero => rw [Nat.zero_mul, Nat.zero_add, List.getElem?_append_left (by rw [nums_length]; omega)]; rfl
    | succ i =>
      rw [List.getElem?_append_right (by rw [nums_length, h2, Nat.add_mul]; omega), nums_length, h2, show (i + 1) * z + j - z = i * z + j from by rw [Nat.add_mul]; omega]
      exact ih (fun x hx => h x (by simp [hx])) i (by simpa using hi)
/-- The cells of the i-th row. -/
theorem Rc.flat_at {w : World} {ad : Addr} {n c : Nat} {ls : List (List Int)} {z : Nat} (h : Rc w (.slice (some ad) n c) n z (flat ls)) (hz : ∀ l ∈ ls, l.length = z) (i : Nat) (hi : i < ls.length) :
    ∀ j v, (nums .i64 ls[i])[j]? = some v → w.cell? ((ad.add (i * z)).add j) = some v := by
  obtain ⟨_, A, c', hv, _, _, h4⟩ := h
  cases hv
  intro j v hv
  have hj : j < z := by
    have := (List.getElem?_eq_some_iff.1 hv).1
    rw [nums_length, hz _ (List.getElem_mem hi)] at this
    exact this
  rw [addr_add_add]
  refine h4 ad rfl _ _ ?_
  rw [flat_get ls z hz i hi j hj]
  exact hv

/-- The world is the old one, some orders having been drawn. -/
def Dr (w w' : World) : Prop := ∃ n, w' = w.drewN n
namespace Dr
variable {w w1 w2 : World}
theorem refl (w : World) : Dr w w := ⟨0, rfl⟩
theorem then_ (h : Dr w w1) (k : Dr w1 w2) : Dr w w2 := by
  obtain ⟨n, rfl⟩ := h
  obtain ⟨m, rfl⟩ := k
  exact ⟨n + m, World.drewN_drewN ..⟩
theorem drewN (h : Dr w w1) (n : Nat) : Dr w (w1.drewN n) := h.then_ ⟨n, rfl⟩
theorem drew (h : Dr w w1) : Dr w w1.drew := h.drewN 1
theorem kp (h : Dr w w1) : Kp No w w1 := by
  obtain ⟨n, rfl⟩ := h
  exact (Kp.refl _ _).drewN n
theorem heap (h : Dr w w1) : w1.heap = w.heap := by
  obtain ⟨n, rfl⟩ := h
  rfl
end Dr

/-- append of whatever cells to what the call owns: its run. -/
theorem run_append_rc {P : Program} {W : World} (t ty e : TypeId) (z : Value) (size bytes : Nat)
    (ht : P.underlying t = some (.slice e)) (hinfo : (P.info? e).map (fun i => (i.zero, i.size, i.bytes)) = some (some z, size, bytes)) (hz : z.cells.size = size) (hs0 : 0 < size) (hb0 : 0 < bytes)
    (base : Nat) (v : Value) (n : Nat) (xs : List Value) (m : Nat) (A : Option Addr) (c : Nat) (ys : List Value) (hr : Rc W (.slice A m c) m size ys) (h1 : ∀ u ∈ ys, u.oneCell' = true)
    (HO : W.ownsRow base e size v n xs) (hbase : base ≤ W.heap.size) (hl : (n + m) * bytes ≤ 140737488355328) :
    ∃ v1 w1, (Builtin.append_ #[t, t] ty #[v, .slice A m c]).run P W = .ok v1 w1 ∧ w1.ownsRow base e size v1 (n + m) (xs ++ ys) ∧ W.grownBy w1 v.ownBlock ∧
      (v1.ownBlock = v.ownBlock ∨ v1.ownBlock = some W.heap.size) ∧ ∃ A c, v1 = .slice A (n + m) c := by
  obtain ⟨i0, hi, hzz⟩ := Option.map_eq_some_iff.1 hinfo
  simp only [Prod.mk.injEq] at hzz
  obtain ⟨hz0, hz1, hz2⟩ := hzz
  have hlen : n + m ≤ 140737488355328 := Nat.le_trans (Nat.le_mul_of_pos_right _ hb0) hl
  obtain ⟨hys, A', c', hv, _, hnil, hcs⟩ := hr
  cases hv
  have hshape : ∀ (v1 : Value) (w1 : World), w1.ownsRow base e size v1 (n + m) (xs ++ ys) → ∃ A c, v1 = .slice A (n + m) c := by
    intro v1 w1 ho1
    rcases ho1.2 with ⟨hv, h0⟩ | ⟨g, cap, cur, hv, _⟩
    · exact ⟨none, 0, by rw [hv, h0]⟩
    · exact ⟨_, _, hv⟩
  cases A with
  | none =>
    obtain ⟨rfl, rfl⟩ := hnil rfl
    have hy : ys = [] := List.eq_nil_of_length_eq_zero (by omega)
    subst hy
    have HO' : W.ownsRow base e size v (n + 0) (xs ++ []) := by rw [List.append_nil]; exact HO
    exact ⟨v, W, run_append_owned_none (P := P) (w := W) base t ty e i0 size ht hi v n xs HO, HO', ⟨rfl, rfl, rfl, Nat.le_refl _, fun _ _ _ => rfl⟩, .inl rfl, hshape v W HO'⟩
  | some ad =>
    obtain ⟨v1, w1, hr, ho1, hg1, _, hat⟩ := run_append_own_at (P := P) W base t ty e i0 z size bytes ht hi hz0 hz1 hz2 hz hs0 v n xs HO ad m c ys hys (hcs ad rfl) h1 (by simp only [maxLen]; omega) hl hbase
    exact ⟨v1, w1, hr, ho1, hg1, hat, hshape v1 w1 ho1⟩
/-- .. as one step of a region that draws. -/
theorem step_append_rc {P : Program} {ops : Array Oper} {o : Oper} {a : Act} {Q : Exit → Act → World → Prop} {K : Act → World → Prop} {E : Prop} {W : World}
    (hgd : o.guard = none) (s x : Operand) (t e : TypeId) (z : Value) (size bytes : Nat)
    (ho : o.op = .call { callee := .builtin .append, args := #[s, x], argTypes := #[t, t] })
    (ht : P.underlying t = some (.slice e)) (hinfo : (P.info? e).map (fun i => (i.zero, i.size, i.bytes)) = some (some z, size, bytes)) (hz : z.cells.size = size) (hs0 : 0 < size) (hb0 : 0 < bytes)
    (base : Nat) (v : Value) (n : Nat) (xs : List Value) (m : Nat) (A : Option Addr) (c : Nat) (ys : List Value) (hs : a.eval s = v) (hx : a.eval x = .slice A m c) (hr : Rc W (.slice A m c) m size ys) (h1 : ∀ u ∈ ys, u.oneCell' = true)
    (HO : W.ownsRow base e size v n xs) (hbase : base ≤ W.heap.size) (hl : (n + m) * bytes ≤ 140737488355328)
    (h : ∀ v1 w1, w1.ownsRow base e size v1 (n + m) (xs ++ ys) → W.grownBy w1 v.ownBlock → (v1.ownBlock = v.ownBlock ∨ v1.ownBlock = some W.heap.size) → (∃ A c, v1 = .slice A (n + m) c) → K (a.put o.dst v1) w1) :
    if Region.wanted o (yielded ops a.tmps) = true then Oper.wp P o a W K Q else E := by
  have hw : Region.wanted o (yielded ops a.tmps) = true := by simp [Region.wanted, hgd]
  rw [if_pos hw]
  obtain ⟨v1, w1, hrun, ho1, hg1, hat, hsh⟩ := run_append_rc t o.type e z size bytes ht hinfo hz hs0 hb0 base v n xs m A c ys hr h1 HO hbase hl
  unfold Oper.wp execOp
  simp only [ho, resolve, invoke, builtin, Sem.run_bind, Sem.run_pure, Result.andThen_ok, List.map_toArray, List.map_cons, List.map_nil, hs, hx, hrun]
  exact h v1 w1 ho1 hg1 hat hsh

theorem own_of_blk {W : World} {b size n : Nat} {e : TypeId} {cs : Array Value} (hb : W.heap[b]? = some (.cells cs e (0, 0))) (hn : cs.size = n * size) (hm : n ≤ maxLen) :
    W.ownsRow b e size (.slice (some ⟨b, 0, none⟩) n n) n cs.toList :=
  ⟨by simpa using hn, .inr ⟨b, n, cs, rfl, Nat.le_refl _, hb, Nat.le_refl _, hm, hn, by rw [List.take_of_length_le (by simp; omega)]⟩⟩
theorem blk_grown {w w1 : World} {g : Nat} {o : Obj} {row : Option Nat} (hb : w.heap[g]? = some o) (hg : w.grownBy w1 row) (hne : some g ≠ row) : w1.heap[g]? = some o :=
  (hg.block g (blk_lt hb) hne).trans hb

/-- .. to an empty slice in a new block of its own. -/
theorem step_append_first {P : Program} {ops : Array Oper} {o : Oper} {a : Act} {Q : Exit → Act → World → Prop} {K : Act → World → Prop} {E : Prop} {W : World}
    (hgd : o.guard = none) (s x : Operand) (t e : TypeId) (z : Value) (size bytes : Nat)
    (ho : o.op = .call { callee := .builtin .append, args := #[s, x], argTypes := #[t, t] })
    (ht : P.underlying t = some (.slice e)) (hinfo : (P.info? e).map (fun i => (i.zero, i.size, i.bytes)) = some (some z, size, bytes)) (hz : z.cells.size = size) (hs0 : 0 < size) (hb0 : 0 < bytes)
    (b : Nat) (m : Nat) (A : Option Addr) (c : Nat) (ys : List Value) (hs : a.eval s = .slice (some ⟨b, 0, none⟩) 0 0) (hx : a.eval x = .slice A m c) (hr : Rc W (.slice A m c) m size ys) (h1 : ∀ u ∈ ys, u.oneCell' = true)
    (hb : W.heap[b]? = some (.cells #[] e (0, 0))) (hl : m * bytes ≤ 140737488355328)
    (h : ∀ A1 c1 w1, w1.ownsRow b e size (.slice A1 m c1) m ys → W.grownBy w1 (some b) → K (a.put o.dst (.slice A1 m c1)) w1) :
    if Region.wanted o (yielded ops a.tmps) = true then Oper.wp P o a W K Q else E := by
  refine step_append_rc hgd s x t e z size bytes ho ht hinfo hz hs0 hb0 b (.slice (some ⟨b, 0, none⟩) 0 0) 0 [] m A c ys hs hx hr h1 (own_of_blk (cs := #[]) hb (by simp) (by decide)) (Nat.le_of_lt (blk_lt hb)) (by rw [Nat.zero_add]; exact hl) ?_
  rintro v1 w1 ho1 hg1 _ ⟨A1, c1, rfl⟩
  simp only [Nat.zero_add, List.nil_append] at ho1 ⊢
  exact h A1 c1 w1 ho1 hg1

theorem grown_blk {w w1 : World} {g : Nat} {o : Obj} {row : Option Nat} (hg : w.grownBy w1 row) (hb : w.heap[g]? = some o) (hne : some g ≠ row) : w1.heap[g]? = some o :=
  (hg.block g (blk_lt hb) hne).trans hb

/-- A store into a row of the call's own, elements of one cell. -/
theorem own_set1 {w : World} {base n g cap : Nat} {e : TypeId} {xs : List Value} (h : w.ownsRow base e 1 (.slice (some ⟨g, 0, none⟩) n cap) n xs) (i : Nat) (hi : i < n) (u : Value) :
    (w.setCell ⟨g, i, none⟩ u).ownsRow base e 1 (.slice (some ⟨g, 0, none⟩) n cap) n (xs.set i u) := by
  obtain ⟨h1, h2⟩ := h
  refine ⟨by simpa using h1, ?_⟩
  rcases h2 with ⟨h2, _⟩ | ⟨g', cap', cur, hv, hb, hg, hn, hm, hc, ht⟩
  · cases h2
  · cases hv
    refine .inr ⟨g, cap, cur.setIfInBounds i u, rfl, hb, blk_set hg i u, hn, hm, by simpa using hc, ?_⟩
    rw [Array.toList_setIfInBounds, List.take_set, ht]
/-- What a row of the call's own is, where it isn't empty. -/
theorem own_some {w : World} {base n size : Nat} {e : TypeId} {v : Value} {xs : List Value} (h : w.ownsRow base e size v n xs) (hn : 0 < n) : ∃ g cap, v = .slice (some ⟨g, 0, none⟩) n cap ∧ n ≤ cap ∧ base ≤ g ∧ g < w.heap.size := by
  rcases h.2 with ⟨_, h0⟩ | ⟨g, cap, cur, hv, hb, hg, hc, _⟩
  · omega
  · exact ⟨g, cap, hv, hc, hb, blk_lt hg⟩
theorem own_cell1 {w : World} {base n g cap : Nat} {e : TypeId} {xs : List Value} (h : w.ownsRow base e 1 (.slice (some ⟨g, 0, none⟩) n cap) n xs) (i : Nat) (u : Value) (hu : xs[i]? = some u) : w.cell? ⟨g, i, none⟩ = some u ∧ w.frozen? ⟨g, i, none⟩ = false := by
  rcases h.2 with ⟨h2, _⟩ | ⟨g', cap', cur, hv, hb, hg, hn, hm, hc, ht⟩
  · cases h2
  · cases hv
    refine ⟨?_, blk_frozen hg i⟩
    rw [blk_cell hg]
    rw [← ht, List.getElem?_take] at hu
    split at hu
    · simpa using hu
    · cases hu

theorem run_storeVar_field {P : Program} (w : World) (g j : Nat) (t ty : TypeId) (cur : Array Value) (v : Value) (hg : w.heap[g]? = some (.cells cur t (0, 0))) (hj : j < cur.size) (hi : (P.info? ty).map (·.size) = some 1)
    (h1 : v.oneCell' = true) : (storeVar ty ⟨g, j, none⟩ v).run P w = .ok () (w.setRow g (cur.setIfInBounds j v)) := by
  have hst := run_storeCells_at P g j t [v] 0 cur w hg (by simp; omega) (fun x hx => by simp at hx; subst hx; exact h1)
  have hc : v.cells = #[v] := by cases v <;> first | rfl | cases h1
  have he : (cur.toList.take (j + 0) ++ [v] ++ cur.toList.drop (j + 0 + [v].length)).toArray = cur.setIfInBounds j v := by
    apply Array.toList_inj.1
    rw [Array.toList_setIfInBounds, List.set_eq_take_append_cons_drop, if_pos (by simpa using hj)]
    simp
  cases hq : P.info? ty with
  | none => simp [hq] at hi
  | some i =>
    have hs : i.size = 1 := by simpa [hq] using hi
    rw [he] at hst
    simp [storeVar, sizeOf, typeInfo, hq, hc, hs, hst]

/-- A store of one cell into a block whose cells are known: the world behind it is a letter. -/
theorem wpList_store_fieldN {P : Program} {ops : Array Oper} {rest : List Oper} {o : Oper} {a : Act} {w : World} {Q : Exit → Act → World → Prop} (hgd : o.guard = none) (ty : TypeId) (x y : Operand) (ho : o.op = .store ty x y)
    (g j : Nat) (v : Value) (hx : a.eval x = .pointer (some ⟨g, j, none⟩)) (hy : a.eval y = v) (h1 : v.oneCell' = true) (t : TypeId) (cur : Array Value) (hg : w.heap[g]? = some (.cells cur t (0, 0))) (hj : j < cur.size) (hi : (P.info? ty).map (·.size) = some 1)
    (h : ∀ W', Kp (Only g) w W' → W'.heap[g]? = some (.cells (cur.setIfInBounds j v) t (0, 0)) → wpList P ops Q rest (a.put o.dst undef) W') : wpList P ops Q (o :: rest) a w := by
  refine wpList_plain hgd fun _ hK => ?_
  unfold Oper.wp execOp
  simp only [ho, hx, hy, Instr.storeAt, Instr.sureAddr, Sem.run_bind, Sem.run_pure, Result.andThen_ok, run_storeVar_field w g j t ty cur v hg hj hi h1]
  exact hK _ _ (h _ (Kp.setRow (S := Only g) (g := g) (Kp.refl _ _) (.inl rfl) _) (setRow_heap _ _ _ _ _ _ hg))
/-- A store of a whole struct or array into its own block. -/
theorem wpList_store_rowN {P : Program} {ops : Array Oper} {rest : List Oper} {o : Oper} {a : Act} {w : World} {Q : Exit → Act → World → Prop} (hgd : o.guard = none) (ty : TypeId) (x y : Operand) (ho : o.op = .store ty x y)
    (g : Nat) (cells : Array Value) (hx : a.eval x = .pointer (some ⟨g, 0, none⟩)) (hy : a.eval y = .agg cells)
    (t : TypeId) (old : Array Value) (hg : w.heap[g]? = some (.cells old t (0, 0))) (hi : (P.info? ty).map (·.size) = some cells.size)
    (hold : old.size = cells.size) (h1 : ∀ u ∈ cells.toList, u.oneCell' = true)
    (h : ∀ W', Kp (Only g) w W' → W'.heap[g]? = some (.cells cells t (0, 0)) → wpList P ops Q rest (a.put o.dst undef) W') : wpList P ops Q (o :: rest) a w :=
  wpList_store_row hgd ty x y ho g cells hx hy t old hg hi hold (by rw [Array.all_eq_true_iff_forall_mem]; exact fun u hu => h1 u (by simpa using hu)) (h _ (Kp.setRow (S := Only g) (g := g) (Kp.refl _ _) (.inl rfl) _) (setRow_heap _ _ _ _ _ _ hg))
/-- .. into a block that was just laid. -/
theorem wpList_store_rowA {P : Program} {ops : Array Oper} {rest : List Oper} {o : Oper} {a : Act} {w : World} {old : Array Value} {t : TypeId} {Q : Exit → Act → World → Prop} (hgd : o.guard = none) (ty : TypeId) (x y : Operand) (ho : o.op = .store ty x y)
    (cells : Array Value) (hx : a.eval x = .pointer (some ⟨w.heap.size, 0, none⟩)) (hy : a.eval y = .agg cells) (hi : (P.info? ty).map (·.size) = some cells.size)
    (hold : old.size = cells.size) (h1 : ∀ u ∈ cells.toList, u.oneCell' = true)
    (h : ∀ W', Kp No w W' → W'.heap[w.heap.size]? = some (.cells cells t (0, 0)) → wpList P ops Q rest (a.put o.dst undef) W') : wpList P ops Q (o :: rest) a (w.alloc (.cells old t)) :=
  wpList_store_rowN hgd ty x y ho w.heap.size cells hx hy t old (blk_new _ _) hi hold h1 (fun W' hk hb => h W' (((Kp.refl No w).alloc _).trans hk (fun k hk => by cases hk; exact .inr (Nat.le_refl _))) hb)

theorem nums_set (k : IntKind) (xs : List Int) (i : Nat) (x : Int) : nums k (xs.set i x) = (nums k xs).set i (.int k x) := by simp [nums, List.map_set]
/-- A store into an element of one cell of a row of the call's own. -/
theorem wpList_store_ownN {P : Program} {ops : Array Oper} {rest : List Oper} {o : Oper} {a : Act} {w : World} {Q : Exit → Act → World → Prop} (hgd : o.guard = none) (ty : TypeId) (x y : Operand) (ho : o.op = .store ty x y)
    (base : Nat) (e : TypeId) (g i n cap : Nat) (xs : List Value) (v : Value) (hx : a.eval x = .pointer (some ⟨g, i, none⟩)) (hy : a.eval y = v) (h1 : v.oneCell' = true) (HO : w.ownsRow base e 1 (.slice (some ⟨g, 0, none⟩) n cap) n xs) (hi : i < n) (hsz : (P.info? ty).map (·.size) = some 1)
    (h : ∀ W', Kp (Only g) w W' → W'.ownsRow base e 1 (.slice (some ⟨g, 0, none⟩) n cap) n (xs.set i v) → wpList P ops Q rest (a.put o.dst undef) W') : wpList P ops Q (o :: rest) a w := by
  rcases HO.2 with ⟨h2, _⟩ | ⟨g', cap', cur, hv, hb, hg, hn, hm, hc, ht⟩
  · cases h2
  · cases hv
    refine wpList_store_fieldN hgd ty x y ho g i v hx hy h1 e cur hg (by omega) hsz ?_
    intro W' hk hb'
    refine h W' hk ⟨by simpa using HO.1, .inr ⟨g, cap, _, rfl, hb, hb', hn, hm, by simpa using hc, ?_⟩⟩
    rw [Array.toList_setIfInBounds, List.take_set, ht]

end Go.Proofs.Ytbenghpodfkdcaa
