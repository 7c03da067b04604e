/- The contracts of Issue, of the law's side and of the reference, and of Cert, in one form each. -/
import Derived.Test.YtbenghpodfkdcaaC2
namespace Go.Proofs.Ytbenghpodfkdcaa
open Go.RowKit

def isu (ks : List (List Int)) (l : List Int) : List (List Int) := if okL l = true then ks ++ [((ks.length : Int) + 1) :: l.drop 1] else ks
def isuN (ks : List (List Int)) (l : List Int) : Int := if okL l = true then (ks.length : Int) + 1 else 0
def booked (ls : List (List Int)) (k : Nat) : List (List Int) := (ls.take k).foldl isu []
theorem booked_zero (ls : List (List Int)) : booked ls 0 = [] := by simp [booked]
theorem booked_succ (ls : List (List Int)) (k : Nat) (hk : k < ls.length) : booked ls (k + 1) = isu (booked ls k) ls[k] := by
  unfold booked
  rw [List.take_succ_eq_append_getElem hk, List.foldl_append]
  rfl
theorem isu_length (ks : List (List Int)) (l : List Int) : (isu ks l).length ≤ ks.length + 1 := by
  unfold isu
  split
  · simp
  · omega
theorem booked_length (ls : List (List Int)) (k : Nat) (hk : k ≤ ls.length) : (booked ls k).length ≤ k := by
  induction k with
  | zero => rw [booked_zero]; exact Nat.le_refl _
  | succ k ih =>
    rw [booked_succ ls k (by omega)]
    have := isu_length (booked ls k) (ls[k]'(by omega))
    have := ih (by omega)
    omega

theorem issue_any (S : Nat → Prop) (g : Nat) (ks : List (List Int)) (l : List Int) (hl : l.length = 8) (w : World) (h : IsBk w S g ks) (hn : ks.length ≤ 100000) :
    Calls Try.prog 15 #[.pointer (some ⟨g, 0, none⟩), .agg (nums .i64 l).toArray] w fun e w' => e = .returned (.tuple #[.int .i64 (isuN ks l), .int .i64 (encE l)]) ∧ Upd S w w' (fun S' => IsBk w' S' g (isu ks l)) := by
  cases ho : okL l with
  | true =>
    have h1 : isuN ks l = (ks.length : Int) + 1 := if_pos ho
    have h2 : encE l = 0 := if_pos ho
    have h3 : isu ks l = ks ++ [((ks.length : Int) + 1) :: l.drop 1] := if_pos ho
    rw [h1, h2, h3]
    clear h1 h2 h3
    obtain ⟨b0, b1, b2, b3, b4, b5, b6, b7, rfl⟩ := list8 l hl
    exact issue_ok S g ks b0 b1 b2 b3 b4 b5 b6 b7 w h hn ho
  | false =>
    have h1 : isuN ks l = 0 := if_neg (by rw [ho]; decide)
    have h2 : encE l = 1 := if_neg (by rw [ho]; decide)
    have h3 : isu ks l = ks := if_neg (by rw [ho]; decide)
    rw [h1, h2, h3]
    refine (issue_bad S g ks l hl w h hn ho).mono ?_
    rintro e w1 ⟨rfl, hk1⟩
    exact ⟨rfl, hk1.mono (fun _ h => h.elim), S, h.kept hk1 (fun _ _ h => h), fun _ h => .inl h⟩
theorem refIssue_any (v : Value) (ks : List (List Int)) (l : List Int) (hl : l.length = 8) (w : World) (h : Rc w v ks.length 8 (flat ks)) (hn : ks.length ≤ 100000) :
    Calls Try.prog 16 #[v, .agg (nums .i64 l).toArray] w fun e w' => ∃ v', e = .returned (.tuple #[v', .int .i64 (isuN ks l), .int .i64 (encE l)]) ∧ Kp No w w' ∧ Rc w' v' (isu ks l).length 8 (flat (isu ks l)) ∧
      (v' = v ∨ ∀ b, v'.ownBlock = some b → w.heap.size ≤ b ∧ b < w'.heap.size) := by
  cases ho : okL l with
  | true =>
    have h1 : isuN ks l = (ks.length : Int) + 1 := if_pos ho
    have h2 : encE l = 0 := if_pos ho
    have h3 : isu ks l = ks ++ [((ks.length : Int) + 1) :: l.drop 1] := if_pos ho
    have h4 : (isu ks l).length = ks.length + 1 := by rw [h3]; simp
    rw [h4, h1, h2, h3]
    clear h1 h2 h3 h4
    obtain ⟨b0, b1, b2, b3, b4, b5, b6, b7, rfl⟩ := list8 l hl
    refine (refIssue_ok v ks b0 b1 b2 b3 b4 b5 b6 b7 w h hn ho).mono ?_
    rintro e w1 ⟨v', rfl, hk1, ho1⟩
    exact ⟨v', rfl, hk1, own_rc ho1, .inr (fun b hb => ho1.lt b hb)⟩
  | false =>
    have h1 : isuN ks l = 0 := if_neg (by rw [ho]; decide)
    have h2 : encE l = 1 := if_neg (by rw [ho]; decide)
    have h3 : isu ks l = ks := if_neg (by rw [ho]; decide)
    rw [h1, h2, h3]
    obtain ⟨b0, b1, b2, b3, b4, b5, b6, b7, rfl⟩ := list8 l hl
    refine (refIssue_bad v ks b0 b1 b2 b3 b4 b5 b6 b7 w h ho).mono ?_
    rintro e w1 ⟨rfl, hk1⟩
    exact ⟨v, rfl, hk1, h.no hk1, .inl rfl⟩
def certV (ks : List (List Int)) (id : Int) : List Int := if 1 ≤ id ∧ id ≤ ks.length then ks[(id - 1).toNat]?.getD Zs else Zs
def certE (ks : List (List Int)) (id : Int) : Int := if 1 ≤ id ∧ id ≤ ks.length then 0 else 5
theorem certV_length (ks : List (List Int)) (h8 : All8 ks) (id : Int) : (certV ks id).length = 8 := by
  unfold certV
  split
  · rw [List.getElem?_eq_getElem (by omega)]
    exact h8 _ (List.getElem_mem _)
  · rfl
theorem cert_any (S : Nat → Prop) (g : Nat) (ks : List (List Int)) (id : Int) (w : World) (h : IsBk w S g ks) (hn : ks.length ≤ 100000) :
    Calls Try.prog 17 #[.pointer (some ⟨g, 0, none⟩), .int .i64 id] w fun e w' => e = .returned (.tuple #[.agg (nums .i64 (certV ks id)).toArray, .int .i64 (certE ks id)]) ∧ Kp No w w' := by
  by_cases hi : 1 ≤ id ∧ id ≤ ks.length
  · have hj : (id - 1).toNat < ks.length := by omega
    have h1 : certV ks id = ks[(id - 1).toNat] := by rw [certV, if_pos hi, List.getElem?_eq_getElem hj]; rfl
    have h2 : certE ks id = 0 := if_pos hi
    rw [h1, h2]
    have h3 := cert_ok S g ks (id - 1).toNat w h hn hj
    rw [show (((id - 1).toNat : Nat) : Int) + 1 = id from by omega] at h3
    exact h3
  · have h1 : certV ks id = Zs := if_neg hi
    have h2 : certE ks id = 5 := if_neg hi
    rw [h1, h2]
    exact cert_none S g ks id w h hn (by omega)

/-- The law's first loop: book and list, side by side. -/
def Both (w wr : World) (g : Nat) (ks : List (List Int)) (v : Value) : Prop :=
  Kp No w wr ∧ ∃ S, IsBk wr S g ks ∧ Rc wr v ks.length 8 (flat ks) ∧ (∀ b, v.ownBlock = some b → ¬ S b ∧ b < wr.heap.size) ∧ ∀ b, S b → w.heap.size ≤ b
theorem Both.next {w wr w1 w2 : World} {g : Nat} {ks' : List (List Int)} {v v' : Value} (hk : Kp No w wr) {S : Nat → Prop} (hd : ∀ b, v.ownBlock = some b → ¬ S b ∧ b < wr.heap.size) (hS : ∀ b, S b → w.heap.size ≤ b)
    (hu : Upd S wr w1 (fun S' => IsBk w1 S' g ks')) (hk2 : Kp No w1 w2) (hr : Rc w2 v' ks'.length 8 (flat ks')) (hv : v' = v ∨ ∀ b, v'.ownBlock = some b → w1.heap.size ≤ b ∧ b < w2.heap.size) : Both w w2 g ks' v' := by
  obtain ⟨h1, S', hb, hs⟩ := hu
  have hlt : ∀ b, S' b → b < w1.heap.size := by
    obtain ⟨⟨_, _, _, _, _, hl⟩, _⟩ := hb
    exact hl
  refine ⟨(hk.trans h1 (fun b hb => .inr (hS b hb))).then_ hk2, S', hb.kept hk2 (fun _ _ h => h), hr, ?_, fun b hb => ?_⟩
  · intro b hbb
    rcases hv with rfl | hv
    · have := hd b hbb
      have h2 := h1.size
      have h3 := hk2.size
      refine ⟨fun h => ?_, by omega⟩
      rcases hs b h with h | h
      · exact this.1 h
      · omega
    · have := hv b hbb
      refine ⟨fun h => ?_, this.2⟩
      have := hlt b h
      omega
  · have h2 := hk.size
    rcases hs b hb with h | h
    · exact hS b h
    · omega
theorem flags_none (ks : List (List Int)) (k : Nat) : flags ks [] k = [] := by
  unfold flags
  simp

end Go.Proofs.Ytbenghpodfkdcaa
