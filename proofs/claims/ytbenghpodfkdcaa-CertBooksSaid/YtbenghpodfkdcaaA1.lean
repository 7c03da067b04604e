/- Contracts of package octets over this seat's translation. -/
import Derived.Test.YtbenghpodfkdcaaProg
import Derived.Test.YtbenghpodfkdcaaK
import Derived.Lib.Hide
import Derived.Deep.QuietTactic
import Derived.BigQuiet
import Derived.Deep.RegionLaw
namespace Go.Proofs.Ytbenghpodfkdcaa
open Go.RowKit

set_option maxHeartbeats 400000 in
theorem newWriter_any (w : World) :
    Calls Try.prog 22 #[] w fun e w' => e = .returned (.pointer (some ⟨w.heap.size, 0, none⟩)) ∧ w' = w.alloc (.cells #[.slice none 0 0, .int .i64 0] 75) := by
  go_enter Try.func22, Try.ntmps22
  go_wp2
  go_ret
  exact ⟨rfl, rfl⟩

/-- A writer without an error at block g: its bytes; S: the blocks that it may write. -/
def IsWr (w : World) (S : Nat → Prop) (g : Nat) (bs : List Int) : Prop := Own1 w S g 75 (fun v => #[v, .int .i64 0]) 5 1 bs.length (nums .u8 bs)

/-- The bytes of a number, sz of them, the greatest first. -/
def be (n : Int) (sz : Nat) : List Int := (List.range sz).map fun j => n / 256 ^ (sz - 1 - j) % 256

def Wrote (S : Nat → Prop) (g : Nat) (bs : List Int) (w w' : World) : Prop := Upd S w w' (fun S' => IsWr w' S' g bs)

theorem info5 : (Try.prog.info? 5).map (fun i => (i.zero, i.size, i.bytes)) = some (some (.int .u8 0), 1, 1) := by kernel_rfl

theorem be_length (n : Int) (sz : Nat) : (be n sz).length = sz := by simp [be]
theorem be_take_succ (n : Int) (sz k : Nat) (h : k < sz) : (be n sz).take (k + 1) = (be n sz).take k ++ [n / 256 ^ (sz - 1 - k) % 256] := by
  rw [List.take_succ_eq_append_getElem (by rw [be_length]; exact h)]
  simp [be]

theorem u8_shift (n : Int) (j : Nat) : IntKind.u8.wrap (n / 2 ^ (8 * (j : Int)).toNat) = n / 256 ^ j % 256 := by
  rw [show (8 * (j : Int)).toNat = 8 * j from by omega, Int.pow_mul]
  rfl

theorem wrote_step {S S' : Nat → Prop} {g : Nat} {l : List Int} {x : Int} {w wr W w1 : World} {v' v1 : Value} (hK : Kp S w wr) (hS' : ∀ k, S' k → S k ∨ w.heap.size ≤ k)
    (hg : wr.heap[g]? = some (.cells #[v', .int .i64 0] 75 (0, 0))) (hS : S' g) (hv : ∀ k, v'.ownBlock = some k → S' k ∧ k ≠ g) (hl : ∀ k, S' k → k < wr.heap.size)
    (hW : Kp No wr W) (ho1 : w1.ownsRow 0 5 1 v1 (l.length + 1) (nums .u8 l ++ [.int .u8 x])) (hg1 : W.grownBy w1 v'.ownBlock) (hat : v1.ownBlock = v'.ownBlock ∨ v1.ownBlock = some W.heap.size) :
    Wrote S g (l ++ [x]) w (w1.setCell ⟨g, 0, none⟩ v1) := by
  refine Upd.trans (Q1 := fun T => T = S') ⟨hK, S', rfl, hS'⟩ ?_
  rintro _ rfl
  have h := Own1.stored (mk := fun v => #[v, .int .i64 0]) (t := 75) (i := 0) hg hS hv hl hW ho1 hg1 hat (fun u => rfl)
  refine h.imp fun S1 h1 => ?_
  show Own1 _ S1 g 75 _ 5 1 (l ++ [x]).length (nums .u8 (l ++ [x]))
  rw [List.length_append, nums_append]
  exact h1

set_option maxHeartbeats 800000 in
theorem num_ok (S : Nat → Prop) (g : Nat) (bs : List Int) (n : Int) (sz : Nat) (w : World) (hw : IsWr w S g bs) (h1 : 1 ≤ sz) (h8 : sz ≤ 8) (hn0 : 0 ≤ n) (d3 : (n / 2 ^ (8 * sz) != 0) = false ∨ sz = 8) (hbs : bs.length ≤ 1000000) :
    Calls Try.prog 37 #[.pointer (some ⟨g, 0, none⟩), .int .u64 n, .int .i64 sz] w fun e w' => e = .returned (.tuple #[]) ∧ Wrote S g (bs ++ be n sz) w w' := by
  have hw0 := hw
  obtain ⟨v, hg, ho, hSg, hSv, hSl⟩ := hw
  have c0 : w.cell? ⟨g, 0, none⟩ = some v := (blk_cell hg 0).trans rfl
  have c1 : w.cell? ⟨g, 1, none⟩ = some (.int .i64 0) := (blk_cell hg 1).trans rfl
  have d1 : decide ((sz : Int) < 1) = false := by simp; omega
  have d2 : decide (8 < (sz : Int)) = false := by simp; omega
  have HW := Asd.mk hw0
  clear hg ho hSg hSv hSl hw0
  obtain ⟨d4, hd4⟩ : ∃ b : Bool, decide ((sz : Int) < 8) = b := ⟨_, rfl⟩
  have hor : d4 = true → (n / 2 ^ (8 * sz) != 0) = false := by
    intro h
    rw [h] at hd4
    simp at hd4
    rcases d3 with d3 | d3
    · exact d3
    · omega
  clear d3
  have HB := Asd.mk hbs
  clear hbs
  cases d4
  all_goals
    try have d3 := hor rfl
    clear hor
    go_enter Try.func37, Try.ntmps37
    go_wp2_with fail
    go_loopw [6] (fun i wr => ∃ (j : Nat) (l : List Int), j ≤ sz ∧ i = .int .i64 ((j : Int) - 1) ∧ Asd (l = bs ++ (be n sz).take (sz - j) ∧ Wrote S g l w wr)) (fun i _ => (intOf i + 1).toNat)
    case atStart => exact ⟨sz, bs, by omega, by simp, ⟨by simp, Upd.same HW.out⟩⟩
    case round =>
      obtain ⟨j, l, hk, hi, HR⟩ := hrel
      cases j with
      | succ j =>
        obtain rfl := (hi.trans (by rw [show ((j + 1 : Nat) : Int) - 1 = (j : Int) from by omega]) : _ = Value.int .i64 (j : Int))
        clear hi
        have hge : decide ((0 : Int) ≤ (j : Int)) = true := by simp
        have b1 : IntKind.i64.wrap (8 * (j : Int)) = 8 * (j : Int) := IntWalk.i64_in _ (by omega)
        obtain ⟨S', ⟨v', hg', ho', hSg', hSv', hSl'⟩, hS'⟩ := HR.out.2.2
        have k0 : wr.cell? ⟨g, 0, none⟩ = some v' := (blk_cell hg' 0).trans rfl
        have k1 : wr.frozen? ⟨g, 0, none⟩ = false := blk_frozen hg' 0
        have k2 : ∀ o, (wr.alloc o).cell? ⟨g, 0, none⟩ = some v' := fun o => (blk_cell (blk_alloc hg' o) 0).trans rfl
        have HG := Asd.mk hg'
        have HV := Asd.mk hSv'
        have HSG := Asd.mk hSg'
        have HSL := Asd.mk hSl'
        have HS := Asd.mk hS'
        clear hg' hSg' hSv' hSl' hS' hge
        have HO := Asd.mk ho'
        clear ho'
        have hj7 : j ≤ 7 := by omega
        have hll : l.length ≤ 1000008 := by have := HR.out.1; have := HB.out; subst l; simp [be_length]; omega
        have hb := fun (x : Value) => blk_new wr (.cells #[x] 5)
        have HBN := Asd.mk hb
        clear hb
        go_wp2_with fail
        go_region_law (refine step_append_new rfl (.tmp 49) (.tmp 55) 24 5 (.int .u8 0) 1 1 rfl Try.underlying24 info5 rfl (by decide) (by decide) v' l.length (nums .u8 l) wr.heap.size 1 1 [.int .u8 (IntKind.u8.wrap (n / 2 ^ (8 * (j : Int)).toNat))] ?hs ?hx ?hb rfl ?h1 ?ho ?hl (by decide) ?_; (case hs => simp [Act.eval, Act.put]); (case hx => simp [Act.eval, Act.put]); (case hb => exact HBN.out _); (case h1 => intro u hu; simp at hu; subst hu; rfl); (case ho => exact HO.out.alloc _); (case hl => omega); intro v1 w1 ho1 hg1 hat1 hsh1; obtain ⟨A1, cp1, rfl⟩ := hsh1; have hb1 := (hg1.block g (by have := blk_lt HG.out; simp; omega) (fun h => (HV.out g h.symm).2 rfl)).trans (blk_alloc HG.out _); have k01 := (blk_cell hb1 0).trans rfl; have k11 := blk_frozen hb1 0; have HO1 := Asd.mk ho1; have HG1 := Asd.mk hg1; have HAT := Asd.mk hat1; clear hb1 ho1 hg1 hat1)
        all_goals
          go_wp2
          go_roundw
          case rel =>
            refine ⟨j, l ++ [n / 256 ^ j % 256], by omega, rfl, ⟨?_, ?_⟩⟩
            · rw [HR.out.1, show sz - j = (sz - (j + 1)) + 1 from by omega, be_take_succ _ _ _ (by omega), List.append_assoc, show sz - 1 - (sz - (j + 1)) = j from by omega]
            · rw [← u8_shift]
              exact wrote_step HR.out.2.1 HS.out HG.out HSG.out HV.out HSL.out ((Kp.refl _ _).alloc _).drew HO1.out HG1.out HAT.out
          case measure => simp [intOf]
      | zero =>
        obtain rfl := hi
        go_wp2
        go_end0
        refine ⟨rfl, ?_⟩
        have h := HR.out.2
        rw [HR.out.1, List.take_of_length_le (by rw [be_length]; omega)] at h
        exact h
end Go.Proofs.Ytbenghpodfkdcaa
