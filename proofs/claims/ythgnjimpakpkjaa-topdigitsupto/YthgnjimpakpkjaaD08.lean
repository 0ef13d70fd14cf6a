/- Verification conditions: digits. The program's functions: digits. The program's functions: decoding; the law of digits. Reading arguments: what is read is a pure value; the law's frame. Entering and leaving a law: arrays as arguments. -/
import Derived.Test.YthgnjimpakpkjaaD07
import Derived.Test.YthgnjimpakpkjaaRows
import Derived.Test.YthgnjimpakpkjaaD05
import Derived.Deep.Slices
import Derived.OpenShut
import Derived.JoinedCond
import Derived.Carry
import Derived.Test.YthgnjimpakpkjaaD02
namespace Go.Proofs.Ythgnjimpakpkjaa
namespace A
def e21 (y : Arr) (n : Int) : Eff := retP (0 ≤ n ∧ n ≤ 1000000) .bool (F.small y n)
def s21 : Spec := sp2 AR I64 e21
def la21 (y : Arr) (n : Int) : Nat → Option (AState → Ann)
  | 2 => some (annT Nat (fun i => [(5, .val I64 (i : Int))]) (fun i => i ≤ y.nums.length ∧ (y.nums.any fun v => decide (v < -n) || decide (n < v)) = ((y.nums.drop i).any fun v => decide (v < -n) || decide (n < v))) (fun i => y.nums.length - i))
  | _ => none
theorem wp21 (y : Arr) (n : Int) (H : Heap) :
    (wpF tb [] (la21 y n) noA Try.f21 (e21 y n) [.val AR y, .val I64 n] H) = (
  (∃ (q0 : Nat),
    (q0 ≤ y.nums.length ∧ (y.nums.any fun (q1 : Int) => decide (q1 < -n) || decide (n < q1)) = (List.drop q0 y.nums).any fun (q1 : Int) => decide (q1 < -n) || decide (n < q1)) ∧
      (0 : Int) = (↑q0 : Int) ∧ True) ∧
  ∀ (q0 : Nat),
    (q0 ≤ y.nums.length ∧ (y.nums.any fun (q1 : Int) => decide (q1 < -n) || decide (n < q1)) = (List.drop q0 y.nums).any fun (q1 : Int) => decide (q1 < -n) || decide (n < q1)) →
      (decide ((↑q0 : Int) < (↑y.nums.length : Int)) = true →
          idxRange (↑q0 : Int) y.nums.length ∧
            inR IntKind.i64 (-n) ∧
              (decide (y.nums.getD (↑q0 : Int).toNat (0 : Int) < -n) = false → idxRange (↑q0 : Int) y.nums.length) ∧
                ((bif decide (y.nums.getD (↑q0 : Int).toNat (0 : Int) < -n) then true else decide (n < y.nums.getD (↑q0 : Int).toNat (0 : Int))) = true → false = F.small y n ∧ True) ∧
                  ((bif decide (y.nums.getD (↑q0 : Int).toNat (0 : Int) < -n) then true else decide (n < y.nums.getD (↑q0 : Int).toNat (0 : Int))) = false →
                    inR IntKind.i64 ((↑q0 : Int) + (1 : Int)) ∧
                      ∃ (q4 : Nat),
                        (q4 ≤ y.nums.length ∧ (y.nums.any fun (q5 : Int) => decide (q5 < -n) || decide (n < q5)) = (List.drop q4 y.nums).any fun (q5 : Int) => decide (q5 < -n) || decide (n < q5)) ∧
                          y.nums.length - q4 < y.nums.length - q0 ∧ (↑q0 : Int) + (1 : Int) = (↑q4 : Int) ∧ True)) ∧
        (decide ((↑q0 : Int) < (↑y.nums.length : Int)) = false → decide (y.kind = (1 : Int)) = F.small y n ∧ True)) := by kernel_rfl

theorem wp121 (n : Int) (H : Heap) :
    (wpF tb [] noA noA Try.f121 (ret .bool (F.rnum n)) [.val I64 n] H) = (
  (bif decide ((-4611686018427387903 : Int) ≤ n) then decide (n ≤ (4611686018427387903 : Int)) else false) = F.rnum n ∧ True) := by kernel_rfl

def s121 : Spec := sp1 I64 fun n => ret .bool (F.rnum n)
def e110 (a b : Int) : Eff := ret I64 (if F.rnum a && F.rnum b then (0 : Int) else (1 : Int))
def s110 : Spec := sp2 I64 I64 e110
theorem wp110 (a b : Int) (H : Heap) :
    (wpF tb [(121, s121)] noA noA Try.f110 (e110 a b) [.val I64 a, .val I64 b] H) = (
  ((bif F.rnum a then F.rnum b else false) = true → ((0 : Int) = if (F.rnum a && F.rnum b) = true then (0 : Int) else (1 : Int)) ∧ True) ∧
  ((bif F.rnum a then F.rnum b else false) = false → ((1 : Int) = if (F.rnum a && F.rnum b) = true then (0 : Int) else (1 : Int)) ∧ True)) := by kernel_rfl

def e109 (a b : Int) : Eff := ⟨[0 ≤ a ∧ a ≤ F.big ∧ 0 < b ∧ b ≤ F.big], .tup (.ofL [.val I64 (a / b), .val I64 (a % b), .val I64 (0 : Int)]), []⟩
def s109 : Spec := sp2 I64 I64 e109
theorem wp109 (a b : Int) (H : Heap) :
    (wpF tb [(110, s110)] noA noA Try.f109 (e109 a b) [.val I64 a, .val I64 b] H) = (
  ((!decide ((if (F.rnum a && F.rnum b) = true then (0 : Int) else (1 : Int)) = (0 : Int))) = true →
    (0 : Int) = a / b ∧ (0 : Int) = a % b ∧ (if (F.rnum a && F.rnum b) = true then (0 : Int) else (1 : Int)) = (0 : Int) ∧ True) ∧
  ((!decide ((if (F.rnum a && F.rnum b) = true then (0 : Int) else (1 : Int)) = (0 : Int))) = false →
    (decide (b = (0 : Int)) = true → (0 : Int) = a / b ∧ (0 : Int) = a % b ∧ (20 : Int) = (0 : Int) ∧ True) ∧
      (decide (b = (0 : Int)) = false →
        (b = (0 : Int) → False) ∧
          inR IntKind.i64 (a.tdiv b) ∧
            (b = (0 : Int) → False) ∧
              ((bif !decide (a.tmod b = (0 : Int)) then !decide (decide (a.tmod b < (0 : Int)) = decide (b < (0 : Int))) else false) = true →
                  inR IntKind.i64 (a.tdiv b - (1 : Int)) ∧ inR IntKind.i64 (a.tmod b + b) ∧ a.tdiv b - (1 : Int) = a / b ∧ a.tmod b + b = a % b ∧ (0 : Int) = (0 : Int) ∧ True) ∧
                ((bif !decide (a.tmod b = (0 : Int)) then !decide (decide (a.tmod b < (0 : Int)) = decide (b < (0 : Int))) else false) = false →
                  a.tdiv b = a / b ∧ a.tmod b = a % b ∧ (0 : Int) = (0 : Int) ∧ True)))) := by kernel_rfl

def e87 (a b : Int) : Eff := retP2 (0 ≤ a ∧ a ≤ F.big ∧ 0 < b ∧ b ≤ F.big) I64 I64 (a % b) (0 : Int)
def s87 : Spec := sp2 I64 I64 e87
theorem wp87 (a b : Int) (H : Heap) :
    (wpF tb [(109, s109)] noA noA Try.f87 (e87 a b) [.val I64 a, .val I64 b] H) = (
  ((0 : Int) ≤ a ∧ a ≤ F.big ∧ (0 : Int) < b ∧ b ≤ F.big) ∧ a % b = a % b ∧ (0 : Int) = (0 : Int) ∧ True) := by kernel_rfl

def e88 (a b : Int) : Eff := retP2 (0 ≤ a ∧ a ≤ F.big ∧ 0 < b ∧ b ≤ F.big) I64 I64 (a / b) (0 : Int)
def s88 : Spec := sp2 I64 I64 e88
theorem wp88 (a b : Int) (H : Heap) :
    (wpF tb [(109, s109)] noA noA Try.f88 (e88 a b) [.val I64 a, .val I64 b] H) = (
  ((0 : Int) ≤ a ∧ a ≤ F.big ∧ (0 : Int) < b ∧ b ≤ F.big) ∧ a / b = a / b ∧ (0 : Int) = (0 : Int) ∧ True) := by kernel_rfl

def e122 (n : Int) : Eff := retP (0 ≤ n) I64 n
def s122 : Spec := sp1 I64 e122
theorem wp122 (n : Int) (H : Heap) :
    (wpF tb [] noA noA Try.f122 (e122 n) [.val I64 n] H) = (
  inR IntKind.i64 (-n) ∧ max n (-n) = n ∧ True) := by kernel_rfl

def e111 (a b : Int) : Eff := retP2 (0 ≤ a ∧ a ≤ 1073741824 ∧ 0 ≤ b ∧ b ≤ 1073741824) I64 I64 (a * b) (0 : Int)
def s111 : Spec := sp2 I64 I64 e111
theorem wp111 (a b : Int) (H : Heap) :
    (wpF tb [(122, s122)] noA noA Try.f111 (e111 a b) [.val I64 a, .val I64 b] H) = (
  ((!decide (b = (0 : Int))) = true → (0 : Int) ≤ a) ∧
  ((!decide (b = (0 : Int))) = true → (0 : Int) ≤ b) ∧
    ((!decide (b = (0 : Int))) = true → b = (0 : Int) → False) ∧
      ((!decide (b = (0 : Int))) = true → inR IntKind.i64 (Int.tdiv (4611686018427387903 : Int) b)) ∧
        ((bif !decide (b = (0 : Int)) then decide (Int.tdiv (4611686018427387903 : Int) b < a) else false) = true → (0 : Int) = a * b ∧ (19 : Int) = (0 : Int) ∧ True) ∧
          ((bif !decide (b = (0 : Int)) then decide (Int.tdiv (4611686018427387903 : Int) b < a) else false) = false → inR IntKind.i64 (a * b) ∧ a * b = a * b ∧ (0 : Int) = (0 : Int) ∧ True)) := by kernel_rfl

theorem wp89 (a b : Int) (H : Heap) :
    (wpF tb [(110, s110), (111, s111)] noA noA Try.f89 (e111 a b) [.val I64 a, .val I64 b] H) = (
  ((!decide ((if (F.rnum a && F.rnum b) = true then (0 : Int) else (1 : Int)) = (0 : Int))) = true →
    (0 : Int) = a * b ∧ (if (F.rnum a && F.rnum b) = true then (0 : Int) else (1 : Int)) = (0 : Int) ∧ True) ∧
  ((!decide ((if (F.rnum a && F.rnum b) = true then (0 : Int) else (1 : Int)) = (0 : Int))) = false →
    ((0 : Int) ≤ a ∧ a ≤ (1073741824 : Int) ∧ (0 : Int) ≤ b ∧ b ≤ (1073741824 : Int)) ∧ a * b = a * b ∧ (0 : Int) = (0 : Int) ∧ True)) := by kernel_rfl

def e112 (n : Int) : Eff := retP2 (F.rnum n = true) I64 I64 n (0 : Int)
def s112 : Spec := sp1 I64 e112
theorem wp112 (n : Int) (H : Heap) :
    (wpF tb [(121, s121)] noA noA Try.f112 (e112 n) [.val I64 n] H) = (
  ((!F.rnum n) = true → (0 : Int) = n ∧ (19 : Int) = (0 : Int) ∧ True) ∧ ((!F.rnum n) = false → n = n ∧ (0 : Int) = (0 : Int) ∧ True)) := by kernel_rfl

def e90 (a b : Int) : Eff := retP2 (0 ≤ a ∧ a ≤ 1073741824 ∧ 0 ≤ b ∧ b ≤ 1073741824) I64 I64 (a + b) (0 : Int)
def s90 : Spec := sp2 I64 I64 e90
theorem wp90 (a b : Int) (H : Heap) :
    (wpF tb [(110, s110), (112, s112)] noA noA Try.f90 (e90 a b) [.val I64 a, .val I64 b] H) = (
  ((!decide ((if (F.rnum a && F.rnum b) = true then (0 : Int) else (1 : Int)) = (0 : Int))) = true →
    (0 : Int) = a + b ∧ (if (F.rnum a && F.rnum b) = true then (0 : Int) else (1 : Int)) = (0 : Int) ∧ True) ∧
  ((!decide ((if (F.rnum a && F.rnum b) = true then (0 : Int) else (1 : Int)) = (0 : Int))) = false → inR IntKind.i64 (a + b) ∧ F.rnum (a + b) = true ∧ a + b = a + b ∧ (0 : Int) = (0 : Int) ∧ True)) := by kernel_rfl

theorem wp56 (n : Int) (H : Heap) :
    (wpF tb [] noA noA Try.f56 (e108 n) [.val I64 n] H) = (
  decide (n < (0 : Int)) = decide (n < (0 : Int)) ∧ True) := by kernel_rfl

def e57 (rs : List Int) (n : Int) : Eff := retPO ((∀ r ∈ rs, 0 < r ∧ r ≤ F.big) ∧ 0 ≤ n ∧ n ≤ F.big) I64 (F.dig rs n).1
def s57 : Spec := sp2 SI I64 e57
def la57 (rs : List Int) (n : Int) : Nat → Option (AState → Ann)
  | 3 => some (annT Nat (fun k => [(6, .val I64 ((k : Int) - 1)), (1, .val I64 (F.dig (rs.drop k) n).2), (5, .own I64 (List.replicate k (0 : Int) ++ (F.dig (rs.drop k) n).1))]) (fun k => k ≤ rs.length ∧ 0 ≤ (F.dig (rs.drop k) n).2 ∧ (F.dig (rs.drop k) n).2 ≤ F.big) (fun k => k))
  | _ => none
theorem wp57 (rs : List Int) (n : Int) (H : Heap) :
    (wpF tb [(87, s87), (88, s88)] (la57 rs n) noA Try.f57 (e57 rs n) [.val SI rs, .val I64 n] H) = (
  ((0 : Int) ≤ (↑rs.length : Int) ∧ (↑rs.length : Int) ≤ (↑rs.length : Int) ∧ (↑rs.length : Int) < (↑LIM : Int)) ∧
  inR IntKind.i64 ((↑rs.length : Int) - (1 : Int)) ∧
    (∃ (q0 : Nat),
        (q0 ≤ rs.length ∧ (0 : Int) ≤ (F.dig (List.drop q0 rs) n).snd ∧ (F.dig (List.drop q0 rs) n).snd ≤ F.big) ∧
          (↑rs.length : Int) - (1 : Int) = (↑q0 : Int) - (1 : Int) ∧
            n = (F.dig (List.drop q0 rs) n).snd ∧ List.replicate (↑rs.length : Int).toNat (0 : Int) = List.replicate q0 (0 : Int) ++ (F.dig (List.drop q0 rs) n).fst ∧ True) ∧
      ∀ (q0 : Nat),
        q0 ≤ rs.length ∧ (0 : Int) ≤ (F.dig (List.drop q0 rs) n).snd ∧ (F.dig (List.drop q0 rs) n).snd ≤ F.big →
          (decide ((↑q0 : Int) - (1 : Int) < (0 : Int)) = true → List.replicate q0 (0 : Int) ++ (F.dig (List.drop q0 rs) n).fst = (F.dig rs n).fst ∧ True) ∧
            (decide ((↑q0 : Int) - (1 : Int) < (0 : Int)) = false →
              idxRange ((↑q0 : Int) - (1 : Int)) rs.length ∧
                (decide (rs.getD ((↑q0 : Int) - (1 : Int)).toNat (0 : Int) = (0 : Int)) = true →
                    idxRange ((↑q0 : Int) - (1 : Int)) (List.replicate q0 (0 : Int) ++ (F.dig (List.drop q0 rs) n).fst).length ∧
                      inR IntKind.i64 ((↑q0 : Int) - (1 : Int) - (1 : Int)) ∧
                        ∃ (q4 : Nat),
                          (q4 ≤ rs.length ∧ (0 : Int) ≤ (F.dig (List.drop q4 rs) n).snd ∧ (F.dig (List.drop q4 rs) n).snd ≤ F.big) ∧
                            q4 < q0 ∧
                              (↑q0 : Int) - (1 : Int) - (1 : Int) = (↑q4 : Int) - (1 : Int) ∧
                                (0 : Int) = (F.dig (List.drop q4 rs) n).snd ∧
                                  (List.replicate q0 (0 : Int) ++ (F.dig (List.drop q0 rs) n).fst).set ((↑q0 : Int) - (1 : Int)).toNat (F.dig (List.drop q0 rs) n).snd =
                                      List.replicate q4 (0 : Int) ++ (F.dig (List.drop q4 rs) n).fst ∧
                                    True) ∧
                  (decide (rs.getD ((↑q0 : Int) - (1 : Int)).toNat (0 : Int) = (0 : Int)) = false →
                    ((0 : Int) ≤ (F.dig (List.drop q0 rs) n).snd ∧
                        (F.dig (List.drop q0 rs) n).snd ≤ F.big ∧ (0 : Int) < rs.getD ((↑q0 : Int) - (1 : Int)).toNat (0 : Int) ∧ rs.getD ((↑q0 : Int) - (1 : Int)).toNat (0 : Int) ≤ F.big) ∧
                      idxRange ((↑q0 : Int) - (1 : Int)) (List.replicate q0 (0 : Int) ++ (F.dig (List.drop q0 rs) n).fst).length ∧
                        ((0 : Int) ≤ (F.dig (List.drop q0 rs) n).snd ∧
                            (F.dig (List.drop q0 rs) n).snd ≤ F.big ∧ (0 : Int) < rs.getD ((↑q0 : Int) - (1 : Int)).toNat (0 : Int) ∧ rs.getD ((↑q0 : Int) - (1 : Int)).toNat (0 : Int) ≤ F.big) ∧
                          inR IntKind.i64 ((↑q0 : Int) - (1 : Int) - (1 : Int)) ∧
                            ∃ (q4 : Nat),
                              (q4 ≤ rs.length ∧ (0 : Int) ≤ (F.dig (List.drop q4 rs) n).snd ∧ (F.dig (List.drop q4 rs) n).snd ≤ F.big) ∧
                                q4 < q0 ∧
                                  (↑q0 : Int) - (1 : Int) - (1 : Int) = (↑q4 : Int) - (1 : Int) ∧
                                    (F.dig (List.drop q0 rs) n).snd / rs.getD ((↑q0 : Int) - (1 : Int)).toNat (0 : Int) = (F.dig (List.drop q4 rs) n).snd ∧
                                      (List.replicate q0 (0 : Int) ++ (F.dig (List.drop q0 rs) n).fst).set ((↑q0 : Int) - (1 : Int)).toNat
                                            ((F.dig (List.drop q0 rs) n).snd % rs.getD ((↑q0 : Int) - (1 : Int)).toNat (0 : Int)) =
                                          List.replicate q4 (0 : Int) ++ (F.dig (List.drop q4 rs) n).fst ∧
                                        True))) := by kernel_rfl

def s55 : Spec := sp2 AR AR fun x y => ret I64 (F.wrong x y)
theorem wp55 (x y : Arr) (H : Heap) :
    (wpF tb [(50, s50)] noA noA Try.f55 (ret I64 (F.wrong x y)) [.val AR x, .val AR y] H) = (
  ((bif !decide (F.aright x = (0 : Int)) then true else !decide (F.aright y = (0 : Int))) = true → (1 : Int) = F.wrong x y ∧ True) ∧
  ((bif !decide (F.aright x = (0 : Int)) then true else !decide (F.aright y = (0 : Int))) = false →
    ((bif !decide (x.kind = (1 : Int)) then true else !decide (y.kind = (1 : Int))) = true → (14 : Int) = F.wrong x y ∧ True) ∧
      ((bif !decide (x.kind = (1 : Int)) then true else !decide (y.kind = (1 : Int))) = false →
        (decide ((1 : Int) < (↑x.shape.length : Int)) = true → (15 : Int) = F.wrong x y ∧ True) ∧ (decide ((1 : Int) < (↑x.shape.length : Int)) = false → (0 : Int) = F.wrong x y ∧ True)))) := by kernel_rfl

def encPre (x y : Arr) : Prop := F.wrong x y = 0 ∧ (∀ r ∈ x.nums, 0 < r ∧ r ≤ F.big) ∧ (∀ n ∈ y.nums, 0 ≤ n ∧ n ≤ F.big) ∧ F.sright (x.shape ++ y.shape) = true ∧ x.nums.length ≤ 1000 ∧ y.nums.length ≤ 1000
def e22 (x y : Arr) : Eff := retP2 (encPre x y) AR I64 (F.enc x y) (0 : Int)
def s22 : Spec := sp2 AR AR e22
def la22 (x y : Arr) : Nat → Option (AState → Ann)
  | 11 => some (annT Nat (fun i => [(44, .val I64 (i : Int)), (8, .own SI ((y.nums.take i).map fun n => (F.dig x.nums n).1))]) (fun i => i ≤ y.nums.length ∧ True) (fun i => y.nums.length - i))
  | 16 => some fun _ => { P := Nat, vars := fun i => [(59, .val I64 (i : Int))], objs := fun i => [(7, .st (.ofL [.val I64 (1 : Int), .own I64 (x.shape ++ y.shape), .own I64 (F.encN x y i), .nils]))], inv := fun i => i ≤ x.nums.length ∧ True, mea := fun i => x.nums.length - i }
  | 19 => some fun s => match s.T 59 with
    | .val (.int .i64) i => { P := Nat, vars := fun k => [(64, .val I64 (k : Int))], objs := fun k => [(7, .st (.ofL [.val I64 (1 : Int), .own I64 (x.shape ++ y.shape), .own I64 (F.encN x y (Int.toNat i) ++ (F.encRow x y (Int.toNat i)).take k), .nils]))], inv := fun k => k ≤ y.nums.length ∧ True, mea := fun k => y.nums.length - k }
    | _ => { P := Nat, vars := fun _ => [], objs := fun _ => [], inv := fun _ => False, mea := fun _ => 0 }
  | _ => none
theorem wp22 (x y : Arr) (H : Heap) :
    (wpF tb [(55, s55), (45, s45), (56, s108), (38, s38), (40, s40), (57, s57)] (la22 x y) noA Try.f22 (e22 x y) [.val AR x, .val AR y] H) = (
  ((!decide (F.wrong x y = (0 : Int))) = true → Arr.mk (0 : Int) [] [] [] = F.enc x y ∧ F.wrong x y = (0 : Int) ∧ True) ∧
  ((!decide (F.wrong x y = (0 : Int))) = false →
    (∀ (q1 : Int), q1 ∈ x.nums → True) ∧
      ((x.nums.any fun (q1 : Int) => decide (q1 < (0 : Int))) = true → Arr.mk (0 : Int) [] [] [] = F.enc x y ∧ (17 : Int) = (0 : Int) ∧ True) ∧
        ((x.nums.any fun (q1 : Int) => decide (q1 < (0 : Int))) = false →
          [x.shape, y.shape].flatten.length < (4294967296 : Nat) ∧
            ((!F.sright [x.shape, y.shape].flatten) = true → Arr.mk (0 : Int) [] [] [] = F.enc x y ∧ (21 : Int) = (0 : Int) ∧ True) ∧
              ((!F.sright [x.shape, y.shape].flatten) = false →
                ((0 : Int) ≤ (0 : Int) ∧ (0 : Int) ≤ (↑y.nums.length : Int) ∧ (↑y.nums.length : Int) < (↑LIM : Int)) ∧
                  (∃ (q3 : Nat),
                      (q3 ≤ y.nums.length ∧ True) ∧
                        (0 : Int) = (↑q3 : Int) ∧ List.replicate (Int.toNat (0 : Int)) [] = List.map (fun (q4 : Int) => (F.dig x.nums q4).fst) (List.take q3 y.nums) ∧ True) ∧
                    ∀ (q3 : Nat),
                      q3 ≤ y.nums.length ∧ True →
                        (decide ((↑q3 : Int) < (↑y.nums.length : Int)) = true →
                            idxRange (↑q3 : Int) y.nums.length ∧
                              ((∀ (q6 : Int), q6 ∈ x.nums → (0 : Int) < q6 ∧ q6 ≤ F.big) ∧ (0 : Int) ≤ y.nums.getD (↑q3 : Int).toNat (0 : Int) ∧ y.nums.getD (↑q3 : Int).toNat (0 : Int) ≤ F.big) ∧
                                (List.map (fun (q6 : Int) => (F.dig x.nums q6).fst) (List.take q3 y.nums) ++ [(F.dig x.nums (y.nums.getD (↑q3 : Int).toNat (0 : Int))).fst]).length < LIM ∧
                                  inR IntKind.i64 ((↑q3 : Int) + (1 : Int)) ∧
                                    ∃ (q6 : Nat),
                                      (q6 ≤ y.nums.length ∧ True) ∧
                                        y.nums.length - q6 < y.nums.length - q3 ∧
                                          (↑q3 : Int) + (1 : Int) = (↑q6 : Int) ∧
                                            List.map (fun (q7 : Int) => (F.dig x.nums q7).fst) (List.take q3 y.nums) ++ [(F.dig x.nums (y.nums.getD (↑q3 : Int).toNat (0 : Int))).fst] =
                                                List.map (fun (q7 : Int) => (F.dig x.nums q7).fst) (List.take q6 y.nums) ∧
                                              True) ∧
                          (decide ((↑q3 : Int) < (↑y.nums.length : Int)) = false →
                            (∃ (q6 : Nat),
                                (q6 ≤ x.nums.length ∧ True) ∧ (0 : Int) = (↑q6 : Int) ∧ (1 : Int) = (1 : Int) ∧ [x.shape, y.shape].flatten = x.shape ++ y.shape ∧ [] = F.encN x y q6 ∧ True) ∧
                              ∀ (q6 : Nat),
                                q6 ≤ x.nums.length ∧ True →
                                  (decide ((↑q6 : Int) < (↑x.nums.length : Int)) = true →
                                      (∃ (q9 : Nat),
                                          (q9 ≤ y.nums.length ∧ True) ∧
                                            (0 : Int) = (↑q9 : Int) ∧
                                              (1 : Int) = (1 : Int) ∧
                                                x.shape ++ y.shape = x.shape ++ y.shape ∧ F.encN x y q6 = F.encN x y (↑q6 : Int).toNat ++ List.take q9 (F.encRow x y (↑q6 : Int).toNat) ∧ True) ∧
                                        ∀ (q9 : Nat),
                                          q9 ≤ y.nums.length ∧ True →
                                            (decide ((↑q9 : Int) < (↑(List.map (fun (q11 : Int) => (F.dig x.nums q11).fst) (List.take q3 y.nums)).length : Int)) = true →
                                                idxRange (↑q9 : Int) (List.map (fun (q12 : Int) => (F.dig x.nums q12).fst) (List.take q3 y.nums)).length ∧
                                                  idxRange (↑q6 : Int) ((List.map (fun (q12 : Int) => (F.dig x.nums q12).fst) (List.take q3 y.nums)).getD (↑q9 : Int).toNat []).length ∧
                                                    (F.encN x y (↑q6 : Int).toNat ++ List.take q9 (F.encRow x y (↑q6 : Int).toNat) ++
                                                            [((List.map (fun (q12 : Int) => (F.dig x.nums q12).fst) (List.take q3 y.nums)).getD (↑q9 : Int).toNat []).getD (↑q6 : Int).toNat
                                                                (0 : Int)]).length <
                                                        LIM ∧
                                                      inR IntKind.i64 ((↑q9 : Int) + (1 : Int)) ∧
                                                        ∃ (q12 : Nat),
                                                          (q12 ≤ y.nums.length ∧ True) ∧
                                                            y.nums.length - q12 < y.nums.length - q9 ∧
                                                              (↑q9 : Int) + (1 : Int) = (↑q12 : Int) ∧
                                                                (1 : Int) = (1 : Int) ∧
                                                                  x.shape ++ y.shape = x.shape ++ y.shape ∧
                                                                    F.encN x y (↑q6 : Int).toNat ++ List.take q9 (F.encRow x y (↑q6 : Int).toNat) ++
                                                                          [((List.map (fun (q13 : Int) => (F.dig x.nums q13).fst) (List.take q3 y.nums)).getD (↑q9 : Int).toNat []).getD
                                                                              (↑q6 : Int).toNat (0 : Int)] =
                                                                        F.encN x y (↑q6 : Int).toNat ++ List.take q12 (F.encRow x y (↑q6 : Int).toNat) ∧
                                                                      True) ∧
                                              (decide ((↑q9 : Int) < (↑(List.map (fun (q11 : Int) => (F.dig x.nums q11).fst) (List.take q3 y.nums)).length : Int)) = false →
                                                inR IntKind.i64 ((↑q6 : Int) + (1 : Int)) ∧
                                                  ∃ (q12 : Nat),
                                                    (q12 ≤ x.nums.length ∧ True) ∧
                                                      x.nums.length - q12 < x.nums.length - q6 ∧
                                                        (↑q6 : Int) + (1 : Int) = (↑q12 : Int) ∧
                                                          (1 : Int) = (1 : Int) ∧
                                                            x.shape ++ y.shape = x.shape ++ y.shape ∧
                                                              F.encN x y (↑q6 : Int).toNat ++ List.take q9 (F.encRow x y (↑q6 : Int).toNat) = F.encN x y q12 ∧ True)) ∧
                                    (decide ((↑q6 : Int) < (↑x.nums.length : Int)) = false → Arr.mk (1 : Int) (x.shape ++ y.shape) (F.encN x y q6) [] = F.enc x y ∧ (0 : Int) = (0 : Int) ∧ True)))))) := by kernel_rfl

def valPre (rs y : List Int) (at_ step count : Int) : Prop := rs = F.ten ∧ (∀ n ∈ y, 0 ≤ n ∧ n ≤ 9) ∧ 0 ≤ at_ ∧ 0 ≤ step ∧ step ≤ 65536 ∧ count = 3 ∧ at_ + 2 * step < (y.length : Int) ∧ y.length < 65537
def e58 (rs y : List Int) (at_ step count : Int) : Eff := retP2 (valPre rs y at_ step count) I64 I64 (F.val3 y at_ step 3) (0 : Int)
def sp5 (t u v s r : Ty) (f : El t → El u → El v → El s → El r → Eff) : Spec := fun xs _ => match xs with
  | [.val t' x, .val u' y, .val v' z, .val s' q, .val r' k] => (castT (a := t') t x).bind fun x => (castT (a := u') u y).bind fun y => (castT (a := v') v z).bind fun z => (castT (a := s') s q).bind fun q => (castT (a := r') r k).map fun k => f x y z q k
  | _ => none
def s58 : Spec := sp5 SI SI I64 I64 I64 e58
def la58 (y : List Int) (at_ step : Int) : Nat → Option (AState → Ann)
  | 3 => some (annT Nat (fun i => [(18, .val I64 (i : Int)), (12, .val I64 (F.val3 y at_ step i))]) (fun i => i ≤ 3 ∧ True) (fun i => 3 - i))
  | _ => none
theorem wp58 (rs y : List Int) (at_ step count : Int) (H : Heap) :
    (wpF tb [(89, s111), (90, s90)] (la58 y at_ step) noA Try.f58 (e58 rs y at_ step count) [.val SI rs, .val SI y, .val I64 at_, .val I64 step, .val I64 count] H) = (
  (∃ (q0 : Nat), (q0 ≤ (3 : Nat) ∧ True) ∧ (0 : Int) = (↑q0 : Int) ∧ (0 : Int) = F.val3 y at_ step q0 ∧ True) ∧
  ∀ (q0 : Nat),
    q0 ≤ (3 : Nat) ∧ True →
      (decide ((↑q0 : Int) < count) = true →
          inR IntKind.i64 ((↑rs.length : Int) - (1 : Int)) ∧
            idxRange (min (↑q0 : Int) ((↑rs.length : Int) - (1 : Int))) rs.length ∧
              ((0 : Int) ≤ F.val3 y at_ step q0 ∧
                  F.val3 y at_ step q0 ≤ (1073741824 : Int) ∧
                    (0 : Int) ≤ rs.getD (min (↑q0 : Int) ((↑rs.length : Int) - (1 : Int))).toNat (0 : Int) ∧
                      rs.getD (min (↑q0 : Int) ((↑rs.length : Int) - (1 : Int))).toNat (0 : Int) ≤ (1073741824 : Int)) ∧
                ((!decide ((0 : Int) = (0 : Int))) = true → (0 : Int) = F.val3 y at_ step (3 : Nat) ∧ (0 : Int) = (0 : Int) ∧ True) ∧
                  ((!decide ((0 : Int) = (0 : Int))) = false →
                    inR IntKind.i64 ((↑q0 : Int) * step) ∧
                      inR IntKind.i64 (at_ + (↑q0 : Int) * step) ∧
                        idxRange (at_ + (↑q0 : Int) * step) y.length ∧
                          ((0 : Int) ≤ F.val3 y at_ step q0 * rs.getD (min (↑q0 : Int) ((↑rs.length : Int) - (1 : Int))).toNat (0 : Int) ∧
                              F.val3 y at_ step q0 * rs.getD (min (↑q0 : Int) ((↑rs.length : Int) - (1 : Int))).toNat (0 : Int) ≤ (1073741824 : Int) ∧
                                (0 : Int) ≤ y.getD (at_ + (↑q0 : Int) * step).toNat (0 : Int) ∧ y.getD (at_ + (↑q0 : Int) * step).toNat (0 : Int) ≤ (1073741824 : Int)) ∧
                            ((!decide ((0 : Int) = (0 : Int))) = true → (0 : Int) = F.val3 y at_ step (3 : Nat) ∧ (0 : Int) = (0 : Int) ∧ True) ∧
                              ((!decide ((0 : Int) = (0 : Int))) = false →
                                inR IntKind.i64 ((↑q0 : Int) + (1 : Int)) ∧
                                  ∃ (q5 : Nat),
                                    (q5 ≤ (3 : Nat) ∧ True) ∧
                                      (3 : Nat) - q5 < (3 : Nat) - q0 ∧
                                        (↑q0 : Int) + (1 : Int) = (↑q5 : Int) ∧
                                          F.val3 y at_ step q0 * rs.getD (min (↑q0 : Int) ((↑rs.length : Int) - (1 : Int))).toNat (0 : Int) + y.getD (at_ + (↑q0 : Int) * step).toNat (0 : Int) =
                                              F.val3 y at_ step q5 ∧
                                            True))) ∧
        (decide ((↑q0 : Int) < count) = false → F.val3 y at_ step q0 = F.val3 y at_ step (3 : Nat) ∧ (0 : Int) = (0 : Int) ∧ True)) := by kernel_rfl

def decPre (x y : Arr) : Prop := x = F.tenA ∧ F.aright y = 0 ∧ y.kind = 1 ∧ (∀ n ∈ y.nums, 0 ≤ n ∧ n ≤ 9) ∧ y.shape.getD 0 0 = 3 ∧ y.shape ≠ []
def e24 (x y : Arr) : Eff := retP2 (decPre x y) AR I64 (F.dec y) (0 : Int)
def s24 : Spec := sp2 AR AR e24
def la24 (y : Arr) : Nat → Option (AState → Ann)
  | 12 => some fun _ => { P := Nat, vars := fun i => [(54, .val I64 (i : Int))], objs := fun i => [(8, .st (.ofL [.val I64 (1 : Int), .own I64 (y.shape.drop 1), .own I64 ((F.dec y).nums.take i), .nils]))], inv := fun i => i ≤ (F.dec y).nums.length ∧ True, mea := fun i => (F.dec y).nums.length - i }
  | _ => none
theorem wp24 (x y : Arr) (H : Heap) :
    (wpF tb [(55, s55), (35, s35), (42, s42), (58, s58)] (la24 y) noA Try.f24 (e24 x y) [.val AR x, .val AR y] H) = (
  ((!decide (F.wrong x y = (0 : Int))) = true → Arr.mk (0 : Int) [] [] [] = F.dec y ∧ F.wrong x y = (0 : Int) ∧ True) ∧
  ((!decide (F.wrong x y = (0 : Int))) = false →
    (decide ((↑y.shape.length : Int) = (0 : Int)) = true →
        ((bif decide ((↑x.shape.length : Int) = (1 : Int)) then !decide ((↑x.nums.length : Int) = (1 : Int)) else false) = true → idxRange (0 : Int) [(1 : Int)].length) ∧
          ((bif bif decide ((↑x.shape.length : Int) = (1 : Int)) then !decide ((↑x.nums.length : Int) = (1 : Int)) else false then
                  !decide ((↑x.nums.length : Int) = [(1 : Int)].getD (Int.toNat (0 : Int)) (0 : Int))
                else false) =
                true →
              Arr.mk (0 : Int) [] [] [] = F.dec y ∧ (16 : Int) = (0 : Int) ∧ True) ∧
            ((bif bif decide ((↑x.shape.length : Int) = (1 : Int)) then !decide ((↑x.nums.length : Int) = (1 : Int)) else false then
                  !decide ((↑x.nums.length : Int) = [(1 : Int)].getD (Int.toNat (0 : Int)) (0 : Int))
                else false) =
                false →
              ((0 : Int) ≤ (1 : Int) ∧ (1 : Int) ≤ (↑[(1 : Int)].length : Int) ∧ (↑[(1 : Int)].length : Int) ≤ (↑[(1 : Int)].length : Int)) ∧
                ((0 : Int) ≤ (1 : Int) ∧ (1 : Int) ≤ (↑[(1 : Int)].length : Int) ∧ (↑[(1 : Int)].length : Int) ≤ (↑[(1 : Int)].length : Int)) ∧
                  (∃ (q3 : Nat),
                      (q3 ≤ (F.dec y).nums.length ∧ True) ∧
                        (0 : Int) = (↑q3 : Int) ∧
                          (1 : Int) = (1 : Int) ∧
                            List.take ((↑[(1 : Int)].length : Int) - (1 : Int)).toNat (List.drop (Int.toNat (1 : Int)) [(1 : Int)]) = List.drop (1 : Nat) y.shape ∧
                              [] = List.take q3 (F.dec y).nums ∧ True) ∧
                    ∀ (q3 : Nat),
                      q3 ≤ (F.dec y).nums.length ∧ True →
                        (decide ((↑q3 : Int) < F.ssize (List.take ((↑[(1 : Int)].length : Int) - (1 : Int)).toNat (List.drop (Int.toNat (1 : Int)) [(1 : Int)]))) = true →
                            idxRange (0 : Int) [(1 : Int)].length ∧
                              (x.nums = F.ten ∧
                                  (∀ (q6 : Int), q6 ∈ y.nums → (0 : Int) ≤ q6 ∧ q6 ≤ (9 : Int)) ∧
                                    (0 : Int) ≤ (↑q3 : Int) ∧
                                      (0 : Int) ≤ F.ssize (List.take ((↑[(1 : Int)].length : Int) - (1 : Int)).toNat (List.drop (Int.toNat (1 : Int)) [(1 : Int)])) ∧
                                        F.ssize (List.take ((↑[(1 : Int)].length : Int) - (1 : Int)).toNat (List.drop (Int.toNat (1 : Int)) [(1 : Int)])) ≤ (65536 : Int) ∧
                                          [(1 : Int)].getD (Int.toNat (0 : Int)) (0 : Int) = (3 : Int) ∧
                                            (↑q3 : Int) + (2 : Int) * F.ssize (List.take ((↑[(1 : Int)].length : Int) - (1 : Int)).toNat (List.drop (Int.toNat (1 : Int)) [(1 : Int)])) <
                                                (↑y.nums.length : Int) ∧
                                              y.nums.length < (65537 : Nat)) ∧
                                ((!decide ((0 : Int) = (0 : Int))) = true → Arr.mk (0 : Int) [] [] [] = F.dec y ∧ (0 : Int) = (0 : Int) ∧ True) ∧
                                  ((!decide ((0 : Int) = (0 : Int))) = false →
                                    (List.take q3 (F.dec y).nums ++
                                            [F.val3 y.nums (↑q3 : Int) (F.ssize (List.take ((↑[(1 : Int)].length : Int) - (1 : Int)).toNat (List.drop (Int.toNat (1 : Int)) [(1 : Int)])))
                                                (3 : Nat)]).length <
                                        LIM ∧
                                      inR IntKind.i64 ((↑q3 : Int) + (1 : Int)) ∧
                                        ∃ (q7 : Nat),
                                          (q7 ≤ (F.dec y).nums.length ∧ True) ∧
                                            (F.dec y).nums.length - q7 < (F.dec y).nums.length - q3 ∧
                                              (↑q3 : Int) + (1 : Int) = (↑q7 : Int) ∧
                                                (1 : Int) = (1 : Int) ∧
                                                  List.drop (1 : Nat) y.shape = List.drop (1 : Nat) y.shape ∧
                                                    List.take q3 (F.dec y).nums ++
                                                          [F.val3 y.nums (↑q3 : Int) (F.ssize (List.take ((↑[(1 : Int)].length : Int) - (1 : Int)).toNat (List.drop (Int.toNat (1 : Int)) [(1 : Int)])))
                                                              (3 : Nat)] =
                                                        List.take q7 (F.dec y).nums ∧
                                                      True)) ∧
                          (decide ((↑q3 : Int) < F.ssize (List.take ((↑[(1 : Int)].length : Int) - (1 : Int)).toNat (List.drop (Int.toNat (1 : Int)) [(1 : Int)]))) = false →
                            Arr.mk (1 : Int) (List.drop (1 : Nat) y.shape) (List.take q3 (F.dec y).nums) [] = F.dec y ∧ (0 : Int) = (0 : Int) ∧ True))) ∧
      (decide ((↑y.shape.length : Int) = (0 : Int)) = false →
        ((bif decide ((↑x.shape.length : Int) = (1 : Int)) then !decide ((↑x.nums.length : Int) = (1 : Int)) else false) = true → idxRange (0 : Int) y.shape.length) ∧
          ((bif bif decide ((↑x.shape.length : Int) = (1 : Int)) then !decide ((↑x.nums.length : Int) = (1 : Int)) else false then
                  !decide ((↑x.nums.length : Int) = y.shape.getD (Int.toNat (0 : Int)) (0 : Int))
                else false) =
                true →
              Arr.mk (0 : Int) [] [] [] = F.dec y ∧ (16 : Int) = (0 : Int) ∧ True) ∧
            ((bif bif decide ((↑x.shape.length : Int) = (1 : Int)) then !decide ((↑x.nums.length : Int) = (1 : Int)) else false then
                  !decide ((↑x.nums.length : Int) = y.shape.getD (Int.toNat (0 : Int)) (0 : Int))
                else false) =
                false →
              ((0 : Int) ≤ (1 : Int) ∧ (1 : Int) ≤ (↑y.shape.length : Int) ∧ (↑y.shape.length : Int) ≤ (↑y.shape.length : Int)) ∧
                ((0 : Int) ≤ (1 : Int) ∧ (1 : Int) ≤ (↑y.shape.length : Int) ∧ (↑y.shape.length : Int) ≤ (↑y.shape.length : Int)) ∧
                  (∃ (q3 : Nat),
                      (q3 ≤ (F.dec y).nums.length ∧ True) ∧
                        (0 : Int) = (↑q3 : Int) ∧ (1 : Int) = (1 : Int) ∧ List.drop (Int.toNat (1 : Int)) y.shape = List.drop (1 : Nat) y.shape ∧ [] = List.take q3 (F.dec y).nums ∧ True) ∧
                    ∀ (q3 : Nat),
                      q3 ≤ (F.dec y).nums.length ∧ True →
                        (decide ((↑q3 : Int) < F.ssize (List.drop (Int.toNat (1 : Int)) y.shape)) = true →
                            idxRange (0 : Int) y.shape.length ∧
                              (x.nums = F.ten ∧
                                  (∀ (q6 : Int), q6 ∈ y.nums → (0 : Int) ≤ q6 ∧ q6 ≤ (9 : Int)) ∧
                                    (0 : Int) ≤ (↑q3 : Int) ∧
                                      (0 : Int) ≤ F.ssize (List.drop (Int.toNat (1 : Int)) y.shape) ∧
                                        F.ssize (List.drop (Int.toNat (1 : Int)) y.shape) ≤ (65536 : Int) ∧
                                          y.shape.getD (Int.toNat (0 : Int)) (0 : Int) = (3 : Int) ∧
                                            (↑q3 : Int) + (2 : Int) * F.ssize (List.drop (Int.toNat (1 : Int)) y.shape) < (↑y.nums.length : Int) ∧ y.nums.length < (65537 : Nat)) ∧
                                ((!decide ((0 : Int) = (0 : Int))) = true → Arr.mk (0 : Int) [] [] [] = F.dec y ∧ (0 : Int) = (0 : Int) ∧ True) ∧
                                  ((!decide ((0 : Int) = (0 : Int))) = false →
                                    (List.take q3 (F.dec y).nums ++ [F.val3 y.nums (↑q3 : Int) (F.ssize (List.drop (Int.toNat (1 : Int)) y.shape)) (3 : Nat)]).length < LIM ∧
                                      inR IntKind.i64 ((↑q3 : Int) + (1 : Int)) ∧
                                        ∃ (q7 : Nat),
                                          (q7 ≤ (F.dec y).nums.length ∧ True) ∧
                                            (F.dec y).nums.length - q7 < (F.dec y).nums.length - q3 ∧
                                              (↑q3 : Int) + (1 : Int) = (↑q7 : Int) ∧
                                                (1 : Int) = (1 : Int) ∧
                                                  List.drop (1 : Nat) y.shape = List.drop (1 : Nat) y.shape ∧
                                                    List.take q3 (F.dec y).nums ++ [F.val3 y.nums (↑q3 : Int) (F.ssize (List.drop (Int.toNat (1 : Int)) y.shape)) (3 : Nat)] =
                                                        List.take q7 (F.dec y).nums ∧
                                                      True)) ∧
                          (decide ((↑q3 : Int) < F.ssize (List.drop (Int.toNat (1 : Int)) y.shape)) = false →
                            Arr.mk (1 : Int) (List.drop (1 : Nat) y.shape) (List.take q3 (F.dec y).nums) [] = F.dec y ∧ (0 : Int) = (0 : Int) ∧ True))))) := by kernel_rfl

def s5 : Spec := sp1 AR e3
def la5 (y : Arr) : Nat → Option (AState → Ann)
  | 4 => some (annT Nat (fun i => [(3, .val I64 (i : Int))]) (fun i => i ≤ y.nums.length ∧ ∀ n ∈ y.nums.take i, 0 ≤ n) (fun i => y.nums.length - i))
  | _ => none
theorem wp5 (y : Arr) (H : Heap) :
    (wpF tb [(7, s7), (8, s8), (15, s15), (21, s21), (22, s22), (23, s23), (24, s24)] (la5 y) noA Try.f5 (e3 y) [.val AR y] H) = (
  ((!F.few y (50 : Int)) = false → (0 : Int) ≤ (999 : Int) ∧ (999 : Int) ≤ (1000000 : Int)) ∧
  ((bif bif bif !F.few y (50 : Int) then true else !F.small y (999 : Int) then true else decide ((8 : Int) ≤ (↑y.shape.length : Int)) then true else decide ((↑y.nums.length : Int) = (0 : Int))) =
        true →
      true = true ∧ True) ∧
    ((bif bif bif !F.few y (50 : Int) then true else !F.small y (999 : Int) then true else decide ((8 : Int) ≤ (↑y.shape.length : Int)) then true else decide ((↑y.nums.length : Int) = (0 : Int))) =
        false →
      (∃ (q1 : Nat), (q1 ≤ y.nums.length ∧ ∀ (q2 : Int), q2 ∈ List.take q1 y.nums → (0 : Int) ≤ q2) ∧ (0 : Int) = (↑q1 : Int) ∧ True) ∧
        ∀ (q1 : Nat),
          (q1 ≤ y.nums.length ∧ ∀ (q2 : Int), q2 ∈ List.take q1 y.nums → (0 : Int) ≤ q2) →
            (decide ((↑q1 : Int) < (↑y.nums.length : Int)) = true →
                idxRange (↑q1 : Int) y.nums.length ∧
                  (decide (y.nums.getD (↑q1 : Int).toNat (0 : Int) < (0 : Int)) = true → true = true ∧ True) ∧
                    (decide (y.nums.getD (↑q1 : Int).toNat (0 : Int) < (0 : Int)) = false →
                      inR IntKind.i64 ((↑q1 : Int) + (1 : Int)) ∧
                        ∃ (q5 : Nat),
                          (q5 ≤ y.nums.length ∧ ∀ (q6 : Int), q6 ∈ List.take q5 y.nums → (0 : Int) ≤ q6) ∧ y.nums.length - q5 < y.nums.length - q1 ∧ (↑q1 : Int) + (1 : Int) = (↑q5 : Int) ∧ True)) ∧
              (decide ((↑q1 : Int) < (↑y.nums.length : Int)) = false →
                (F.wrong (Arr.mk (1 : Int) [(↑[(10 : Int), (10 : Int), (10 : Int)].length : Int)] [(10 : Int), (10 : Int), (10 : Int)] []) y = (0 : Int) ∧
                    (∀ (q4 : Int), q4 ∈ (Arr.mk (1 : Int) [(↑[(10 : Int), (10 : Int), (10 : Int)].length : Int)] [(10 : Int), (10 : Int), (10 : Int)] []).nums → (0 : Int) < q4 ∧ q4 ≤ F.big) ∧
                      (∀ (q4 : Int), q4 ∈ y.nums → (0 : Int) ≤ q4 ∧ q4 ≤ F.big) ∧
                        F.sright ((Arr.mk (1 : Int) [(↑[(10 : Int), (10 : Int), (10 : Int)].length : Int)] [(10 : Int), (10 : Int), (10 : Int)] []).shape ++ y.shape) = true ∧
                          (Arr.mk (1 : Int) [(↑[(10 : Int), (10 : Int), (10 : Int)].length : Int)] [(10 : Int), (10 : Int), (10 : Int)] []).nums.length ≤ (1000 : Nat) ∧ y.nums.length ≤ (1000 : Nat)) ∧
                  (Arr.mk (1 : Int) [(↑[(10 : Int), (10 : Int), (10 : Int)].length : Int)] [(10 : Int), (10 : Int), (10 : Int)] [] = F.tenA ∧
                      F.aright (F.enc (Arr.mk (1 : Int) [(↑[(10 : Int), (10 : Int), (10 : Int)].length : Int)] [(10 : Int), (10 : Int), (10 : Int)] []) y) = (0 : Int) ∧
                        (F.enc (Arr.mk (1 : Int) [(↑[(10 : Int), (10 : Int), (10 : Int)].length : Int)] [(10 : Int), (10 : Int), (10 : Int)] []) y).kind = (1 : Int) ∧
                          (∀ (q4 : Int),
                              q4 ∈ (F.enc (Arr.mk (1 : Int) [(↑[(10 : Int), (10 : Int), (10 : Int)].length : Int)] [(10 : Int), (10 : Int), (10 : Int)] []) y).nums → (0 : Int) ≤ q4 ∧ q4 ≤ (9 : Int)) ∧
                            (F.enc (Arr.mk (1 : Int) [(↑[(10 : Int), (10 : Int), (10 : Int)].length : Int)] [(10 : Int), (10 : Int), (10 : Int)] []) y).shape.getD (0 : Nat) (0 : Int) = (3 : Int) ∧
                              (F.enc (Arr.mk (1 : Int) [(↑[(10 : Int), (10 : Int), (10 : Int)].length : Int)] [(10 : Int), (10 : Int), (10 : Int)] []) y).shape ≠ []) ∧
                    inR IntKind.i64 ((0 : Int) + (0 : Int)) ∧
                      (bif F.same (F.dec (F.enc (Arr.mk (1 : Int) [(↑[(10 : Int), (10 : Int), (10 : Int)].length : Int)] [(10 : Int), (10 : Int), (10 : Int)] []) y)) y then true else false) = true ∧
                        True))) := by kernel_rfl

end A
end Go.Proofs.Ythgnjimpakpkjaa
namespace Go.Proofs.Ythgnjimpakpkjaa
namespace A
theorem sat21 : Sat Try.prog 21 s21 := sat2 fine [] Sat.none Try.func21 (by kernel_rfl) fun (y : Arr) (n : Int) H hpre hwf _ => ⟨la21 y n, noA, by
  refine (wp21 y n H).mpr ?_
  have hp : 0 ≤ n ∧ n ≤ 1000000 := hpre _ (by simp [e21, retP])
  obtain ⟨_, _, w2, _⟩ := WF_arr hwf
  have hlen := WF_lenS w2
  refine ⟨⟨0, ⟨Nat.zero_le _, rfl⟩, rfl, trivial⟩, ?_⟩
  rintro i ⟨h1, h2⟩
  simp only [and_true, idx_iff, inR64, toNat_cast]
  refine ⟨fun hi => ?_, fun hi => ?_⟩
  · have hi : i < y.nums.length := by simpa using hi
    rw [drop_getD 0 hi, List.any_cons] at h2
    refine ⟨by omega, by omega, fun _ => by omega, fun hd => ?_, fun hd => ⟨by omega, i + 1, ⟨by omega, ?_⟩, by omega, by simp⟩⟩
    · unfold F.small
      rw [h2]
      have : (decide (y.nums.getD i 0 < -n) || decide (n < y.nums.getD i 0)) = true := by grind
      rw [this]; rfl
    · rw [h2]
      have : (decide (y.nums.getD i 0 < -n) || decide (n < y.nums.getD i 0)) = false := by grind
      rw [this]; rfl
  · rw [drop_all (by simpa using hi)] at h2
    unfold F.small
    rw [h2]; rfl⟩
theorem sat121 : Sat Try.prog 121 s121 := sat1 fine [] Sat.none Try.func121 (by kernel_rfl) fun (n : Int) H _ _ => ⟨noA, noA, by
  refine (wp121 n H).mpr ?_
  simp only [and_true, F.rnum]
  grind⟩
theorem sat110 : Sat Try.prog 110 s110 := sat2 fine [(121, s121)] (sat121.app Sat.none) Try.func110 (by kernel_rfl) fun (a b : Int) H _ _ _ => ⟨noA, noA, by
  refine (wp110 a b H).mpr ?_
  cases F.rnum a <;> cases F.rnum b <;> simp⟩
theorem rnum_of {a : Int} (h : 0 ≤ a) (h2 : a ≤ F.big) : F.rnum a = true := by
  unfold F.big at h2
  simp only [F.rnum, Bool.and_eq_true, decide_eq_true_eq]
  omega
theorem sat109 : Sat Try.prog 109 s109 := sat2 fine [(110, s110)] (sat110.app Sat.none) Try.func109 (by kernel_rfl) fun (a b : Int) H hpre _ _ => ⟨noA, noA, by
  refine (wp109 a b H).mpr ?_
  have hp : 0 ≤ a ∧ a ≤ F.big ∧ 0 < b ∧ b ≤ F.big := hpre _ (by simp [e109])
  rw [rnum_of hp.1 hp.2.1, rnum_of (by omega) hp.2.2.2]
  have h1 : a.tdiv b = a / b := Int.tdiv_eq_ediv_of_nonneg hp.1
  have h2 : a.tmod b = a % b := Int.tmod_eq_emod_of_nonneg hp.1
  rw [h1, h2]
  have h3 : 0 ≤ a % b := Int.emod_nonneg _ (by omega)
  have h4 : 0 ≤ a / b := Int.ediv_nonneg hp.1 (by omega)
  have h5 : a / b ≤ a := Int.ediv_le_self _ hp.1
  have hb : F.big = 4611686018427387903 := rfl
  simp only [inR64, and_true]
  refine ⟨fun h => by simp at h, fun _ => ⟨fun h => by simp at h; omega, fun _ => ⟨by omega, by omega, by omega, fun h => ?_, fun _ => trivial⟩⟩⟩
  exfalso
  have e1 : decide (a % b < 0) = false := by simp; omega
  have e2 : decide (b < 0) = false := by simp; omega
  rw [e1, e2] at h
  simp at h⟩
theorem sat87 : Sat Try.prog 87 s87 := sat2 fine [(109, s109)] (sat109.app Sat.none) Try.func87 (by kernel_rfl) fun (a b : Int) H hpre _ _ => ⟨noA, noA, (wp87 a b H).mpr ⟨hpre _ (by simp [e87, retP2]), rfl, rfl, trivial⟩⟩
theorem sat88 : Sat Try.prog 88 s88 := sat2 fine [(109, s109)] (sat109.app Sat.none) Try.func88 (by kernel_rfl) fun (a b : Int) H hpre _ _ => ⟨noA, noA, (wp88 a b H).mpr ⟨hpre _ (by simp [e88, retP2]), rfl, rfl, trivial⟩⟩
theorem sat122 : Sat Try.prog 122 s122 := sat1 fine [] Sat.none Try.func122 (by kernel_rfl) fun (n : Int) H hpre hwf => ⟨noA, noA, by
  refine (wp122 n H).mpr ?_
  have hp : 0 ≤ n := hpre _ (by simp [e122, retP])
  have hw : inR .i64 n := hwf.int
  simp only [inR64] at hw ⊢
  exact ⟨by omega, by omega, trivial⟩⟩
theorem sat111 : Sat Try.prog 111 s111 := sat2 fine [(122, s122)] (sat122.app Sat.none) Try.func111 (by kernel_rfl) fun (a b : Int) H hpre _ _ => ⟨noA, noA, by
  refine (wp111 a b H).mpr ?_
  have hp : 0 ≤ a ∧ a ≤ 1073741824 ∧ 0 ≤ b ∧ b ≤ 1073741824 := hpre _ (by simp [e111, retP2])
  have m1 : a * b ≤ 1073741824 * 1073741824 := Int.mul_le_mul hp.2.1 hp.2.2.2 hp.2.2.1 (by omega)
  have m0 : 0 ≤ a * b := Int.mul_nonneg hp.1 hp.2.2.1
  have h1 : Int.tdiv 4611686018427387903 b = 4611686018427387903 / b := Int.tdiv_eq_ediv_of_nonneg (by omega)
  rw [h1]
  have h2 : 0 ≤ 4611686018427387903 / b := Int.ediv_nonneg (by omega) hp.2.2.1
  have h3 : 4611686018427387903 / b ≤ 4611686018427387903 := Int.ediv_le_self _ (by omega)
  simp only [inR64, and_true]
  refine ⟨fun _ => hp.1, fun _ => hp.2.2.1, fun h => by simpa using h, fun _ => by omega, fun h => ?_, fun _ => by omega⟩
  exfalso
  have hb : b ≠ 0 ∧ 4611686018427387903 / b < a := by
    by_cases h0 : b = 0
    · simp [h0] at h
    · refine ⟨h0, by simpa [h0] using h⟩
  have h4 : 1073741824 ≤ 4611686018427387903 / b := (Int.le_ediv_iff_mul_le (by omega)).2 (by
    have : 1073741824 * b ≤ 1073741824 * 1073741824 := Int.mul_le_mul_of_nonneg_left hp.2.2.2 (by omega)
    omega)
  omega⟩
theorem sat89 : Sat Try.prog 89 s111 := sat2 fine [(110, s110), (111, s111)] (sat110.app (sat111.app Sat.none)) Try.func89 (by kernel_rfl) fun (a b : Int) H hpre _ _ => ⟨noA, noA, by
  refine (wp89 a b H).mpr ?_
  have hp : 0 ≤ a ∧ a ≤ 1073741824 ∧ 0 ≤ b ∧ b ≤ 1073741824 := hpre _ (by simp [e111, retP2])
  rw [rnum_of hp.1 (by unfold F.big; omega), rnum_of hp.2.2.1 (by unfold F.big; omega)]
  exact ⟨fun h => by simp at h, fun _ => ⟨hp, rfl, rfl, trivial⟩⟩⟩
theorem sat112 : Sat Try.prog 112 s112 := sat1 fine [(121, s121)] (sat121.app Sat.none) Try.func112 (by kernel_rfl) fun (n : Int) H hpre _ => ⟨noA, noA, by
  refine (wp112 n H).mpr ?_
  have hp : F.rnum n = true := hpre _ (by simp [e112, retP2])
  rw [hp]
  exact ⟨fun h => by simp at h, fun _ => ⟨rfl, rfl, trivial⟩⟩⟩
theorem sat90 : Sat Try.prog 90 s90 := sat2 fine [(110, s110), (112, s112)] (sat110.app (sat112.app Sat.none)) Try.func90 (by kernel_rfl) fun (a b : Int) H hpre _ _ => ⟨noA, noA, by
  refine (wp90 a b H).mpr ?_
  have hp : 0 ≤ a ∧ a ≤ 1073741824 ∧ 0 ≤ b ∧ b ≤ 1073741824 := hpre _ (by simp [e90, retP2])
  rw [rnum_of hp.1 (by unfold F.big; omega), rnum_of hp.2.2.1 (by unfold F.big; omega)]
  simp only [inR64]
  exact ⟨fun h => by simp at h, fun _ => ⟨by omega, rnum_of (by omega) (by unfold F.big; omega), trivial, trivial, trivial⟩⟩⟩
theorem sat56 : Sat Try.prog 56 s108 := sat1 fine [] Sat.none Try.func56 (by kernel_rfl) fun (n : Int) H _ _ => ⟨noA, noA, (wp56 n H).mpr ⟨rfl, trivial⟩⟩
theorem F.dig_len : ∀ (rs : List Int) (n : Int), (F.dig rs n).1.length = rs.length
  | [], _ => rfl
  | r :: rs, n => by simp [F.dig, F.dig_len rs n]
theorem F.dig_drop {rs : List Int} {k : Nat} (h : k < rs.length) (n : Int) : F.dig (rs.drop k) n = ((F.dig (rs.drop (k + 1)) n).2 % rs.getD k 0 :: (F.dig (rs.drop (k + 1)) n).1, (F.dig (rs.drop (k + 1)) n).2 / rs.getD k 0) := by
  rw [drop_getD 0 h, F.dig]
theorem rep_set (k : Nat) (l : List Int) (v : Int) : (List.replicate (k + 1) (0 : Int) ++ l).set k v = List.replicate k 0 ++ v :: l := by
  rw [List.replicate_succ', List.append_assoc, List.set_append_right _ _ (by simp)]
  simp
theorem sat57 : Sat Try.prog 57 s57 := sat2 fine [(87, s87), (88, s88)] (sat87.app (sat88.app Sat.none)) Try.func57 (by kernel_rfl) fun (rs : List Int) (n : Int) H hpre hwf _ => ⟨la57 rs n, noA, by
  refine (wp57 rs n H).mpr ?_
  have hp : (∀ r ∈ rs, 0 < r ∧ r ≤ F.big) ∧ 0 ≤ n ∧ n ≤ F.big := hpre _ (by simp [e57, retPO])
  have hlen := WF_lenS hwf
  have hL : (LIM : Int) = 4294967296 := rfl
  have hall : rs.drop rs.length = [] := drop_all (Nat.le_refl _)
  simp only [and_true, idx_iff, inR64]
  refine ⟨by omega, by omega, ⟨rs.length, ⟨Nat.le_refl _, by rw [hall]; exact hp.2⟩, rfl, by rw [hall]; rfl, by rw [hall]; simp [F.dig]⟩, ?_⟩
  rintro k ⟨h1, h2, h3⟩
  have hdl := F.dig_len (rs.drop k) n
  rw [List.length_drop] at hdl
  refine ⟨fun hk => ?_, fun hk => ?_⟩
  · have : k = 0 := by simp at hk; omega
    subst this
    simp
  · obtain ⟨k, rfl⟩ : ∃ j, k = j + 1 := ⟨k - 1, by simp at hk; omega⟩
    have e1 : ((k + 1 : Nat) : Int) - 1 = (k : Int) := by omega
    rw [e1, toNat_cast]
    have hr := hp.1 _ (getD_mem 0 (show k < rs.length by omega))
    have hd := F.dig_drop (show k < rs.length by omega) n
    have hlen2 : (List.replicate (k + 1) (0 : Int) ++ (F.dig (rs.drop (k + 1)) n).1).length = rs.length := by rw [List.length_append, List.length_replicate, hdl]; omega
    rw [hlen2, rep_set, rep_set]
    refine ⟨by omega, fun h0 => absurd (of_decide_eq_true h0) (by omega), fun _ => ⟨⟨h2, h3, hr⟩, by omega, ⟨h2, h3, hr⟩, by omega, k, ⟨by omega, ?_⟩, by omega, by omega, by rw [hd], by rw [hd]⟩⟩
    rw [hd]
    simp only
    exact ⟨Int.ediv_nonneg h2 (by omega), Int.le_trans (Int.ediv_le_self _ h2) h3⟩⟩
theorem sat55 : Sat Try.prog 55 s55 := sat2 fine [(50, s50)] (sat50.app Sat.none) Try.func55 (by kernel_rfl) fun (x y : Arr) H _ _ _ => ⟨noA, noA, by
  refine (wp55 x y H).mpr ?_
  unfold F.wrong
  refine ⟨fun h => by rw [if_pos (by grind)]; exact ⟨rfl, trivial⟩, fun h => ?_⟩
  rw [if_neg (by grind)]
  refine ⟨fun h2 => by rw [if_pos (by grind)]; exact ⟨rfl, trivial⟩, fun h2 => ?_⟩
  rw [if_neg (by grind)]
  refine ⟨fun h3 => by rw [if_pos (by simp at h3; omega)]; exact ⟨rfl, trivial⟩, fun h3 => by rw [if_neg (by simp at h3; omega)]; exact ⟨rfl, trivial⟩⟩⟩
theorem F.encRow_len (x y : Arr) (i : Nat) : (F.encRow x y i).length = y.nums.length := by simp [F.encRow]
theorem F.encN_succ (x y : Arr) (k : Nat) : F.encN x y (k + 1) = F.encN x y k ++ F.encRow x y k := by simp [F.encN, List.range_succ]
theorem F.encN_len (x y : Arr) : ∀ k, (F.encN x y k).length = k * y.nums.length
  | 0 => by simp [F.encN]
  | k + 1 => by rw [F.encN_succ, List.length_append, F.encN_len x y k, F.encRow_len, Nat.add_mul]; omega
theorem sat22 : Sat Try.prog 22 s22 := sat2 fine [(55, s55), (45, s45), (56, s108), (38, s38), (40, s40), (57, s57)] (sat55.app (sat45.app (sat56.app (sat38.app (sat40.app (sat57.app Sat.none)))))) Try.func22 (by kernel_rfl) fun (x y : Arr) H hpre _ _ => ⟨la22 x y, noA, by
  refine (wp22 x y H).mpr ?_
  have hp : encPre x y := hpre _ (by simp [e22, retP2])
  obtain ⟨p1, p2, p3, p4, p5, p6⟩ := hp
  have hfl : [x.shape, y.shape].flatten = x.shape ++ y.shape := by simp
  have h8 := F.sright_len p4
  have hneg : (x.nums.any fun (q1 : Int) => decide (q1 < (0 : Int))) = false := by
    rw [List.any_eq_false]
    intro r hr
    have := p2 r hr
    simp; omega
  have hL : (LIM : Int) = 4294967296 := rfl
  have hLn : LIM = 4294967296 := rfl
  rw [p1, hneg, hfl, p4]
  simp only [and_true, idx_iff, inR64, toNat_cast]
  refine ⟨fun h => by simp at h, fun _ => ⟨fun _ _ => trivial, (fun h => by cases h), fun _ => ⟨by omega, (fun h => by cases h), fun _ => ⟨by omega, ⟨0, Nat.zero_le _, rfl, rfl⟩, fun i hi => ⟨fun hlt => ?_, fun hlt => ?_⟩⟩⟩⟩⟩
  · have hlt : i < y.nums.length := by simpa using hlt
    refine ⟨by omega, ⟨p2, p3 _ (getD_mem 0 hlt)⟩, by simp; omega, by omega, i + 1, by omega, by omega, by simp, ?_⟩
    rw [take_snoc' 0 hlt, List.map_append]; rfl
  · have hall : y.nums.take i = y.nums := List.take_of_length_le (by simpa using hlt)
    rw [hall]
    refine ⟨⟨0, Nat.zero_le _, rfl, trivial, trivial, rfl⟩, fun j hj => ⟨fun hjt => ?_, fun hjt => ?_⟩⟩
    · have hjt : j < x.nums.length := by simpa using hjt
      have hjl : j * y.nums.length ≤ 1000 * 1000 := Nat.mul_le_mul (by omega) p6
      refine ⟨⟨0, Nat.zero_le _, rfl, trivial, trivial, by simp⟩, fun k hk => ⟨fun hkt => ?_, fun hkt => ?_⟩⟩
      · have hkt : k < y.nums.length := by simpa using hkt
        have hcol : (y.nums.map fun n => (F.dig x.nums n).1).getD k [] = (F.dig x.nums (y.nums.getD k 0)).1 := by
          simp [List.getD_eq_getElem?_getD, List.getElem?_eq_getElem hkt]
        have hrow : (F.encRow x y j).getD k 0 = (F.dig x.nums (y.nums.getD k 0)).1.getD j 0 := by
          simp [F.encRow, List.getD_eq_getElem?_getD, List.getElem?_eq_getElem hkt]
        rw [hcol, F.dig_len, ← hrow]
        refine ⟨by simp; omega, by omega, ?_, by omega, k + 1, by omega, by omega, by simp, trivial, trivial, ?_⟩
        · simp only [List.length_append, F.encN_len, List.length_take, F.encRow_len, List.length_cons, List.length_nil]; omega
        · rw [take_snoc' 0 (show k < (F.encRow x y j).length by rw [F.encRow_len]; exact hkt), List.append_assoc]
      · refine ⟨by omega, j + 1, by omega, by omega, by simp, trivial, trivial, ?_⟩
        rw [F.encN_succ, List.take_of_length_le (by rw [F.encRow_len]; simpa using hkt)]
    · have : j = x.nums.length := by simp at hjt; omega
      subst this
      rfl⟩
theorem sp5_inv {t u v s r : Ty} {f : El t → El u → El v → El s → El r → Eff} {xs : List AV} {H : Heap} {e : Eff} (h : sp5 t u v s r f xs H = some e) : ∃ x y z q k, xs = [.val t x, .val u y, .val v z, .val s q, .val r k] ∧ e = f x y z q k := by
  unfold sp5 at h
  split at h
  · obtain ⟨x, h1, h⟩ := Option.bind_eq_some_iff.1 h
    obtain ⟨y, h2, h⟩ := Option.bind_eq_some_iff.1 h
    obtain ⟨z, h3, h⟩ := Option.bind_eq_some_iff.1 h
    obtain ⟨q, h4, h⟩ := Option.bind_eq_some_iff.1 h
    obtain ⟨k, h5, h6⟩ := opt_map h
    obtain ⟨e1, rfl⟩ := castT_eq h1
    obtain ⟨e2, rfl⟩ := castT_eq h2
    obtain ⟨e3, rfl⟩ := castT_eq h3
    obtain ⟨e4, rfl⟩ := castT_eq h4
    obtain ⟨e5, rfl⟩ := castT_eq h5
    cases e1; cases e2; cases e3; cases e4; cases e5
    exact ⟨_, _, _, _, _, rfl, h6.symm⟩
  · cases h
end A
end Go.Proofs.Ythgnjimpakpkjaa
namespace Go.Proofs.Ythgnjimpakpkjaa
namespace A
theorem wp58_ok (rs y : List Int) (at_ step count : Int) (H : Heap) (hp : valPre rs y at_ step count) : wpF tb [(89, s111), (90, s90)] (la58 y at_ step) noA Try.f58 (e58 rs y at_ step count) [.val SI rs, .val SI y, .val I64 at_, .val I64 step, .val I64 count] H := by
    refine (wp58 rs y at_ step count H).mpr ?_
    obtain ⟨rfl, p2, p3, p4, p5, rfl, p7, p8⟩ := hp
    have hd : ∀ k : Int, 0 ≤ k → k < (y.length : Int) → 0 ≤ y.getD k.toNat 0 ∧ y.getD k.toNat 0 ≤ 9 := fun k h1 h2 => p2 _ (getD_mem 0 (by omega))
    have d0 := hd at_ p3 (by omega)
    have d1 := hd (at_ + step) (by omega) (by omega)
    have d2 := hd (at_ + 2 * step) (by omega) (by omega)
    refine ⟨⟨0, ⟨Nat.zero_le _, trivial⟩, rfl, rfl, trivial⟩, fun k hk => ?_⟩
    have hk := hk.1
    simp only [and_true, idx_iff, inR64]
    have hten : (F.ten.length : Int) = 3 := rfl
    rw [hten]
    have h3 : k = 0 ∨ k = 1 ∨ k = 2 ∨ k = 3 := by omega
    rcases h3 with rfl | rfl | rfl | rfl
    · have e1 : at_ + ((0 : Nat) : Int) * step = at_ := by simp
      have e2 : ((0 : Nat) : Int) * step = 0 := by simp
      have e3 : F.ten.getD (min ((0 : Nat) : Int) (3 - 1)).toNat 0 = 10 := by decide
      rw [e1, e2, e3]
      simp only [F.val3]
      exact ⟨fun _ => ⟨by omega, by omega, by omega, fun h => by simp at h, fun _ => ⟨by omega, by omega, by omega, by omega, fun h => by simp at h, fun _ => ⟨by omega, 1, by omega, by omega, rfl, by show _ = y.getD at_.toNat 0; omega⟩⟩⟩, fun h => by simp at h⟩
    · have e1 : at_ + ((1 : Nat) : Int) * step = at_ + step := by simp
      have e2 : ((1 : Nat) : Int) * step = step := by simp
      have e3 : F.ten.getD (min ((1 : Nat) : Int) (3 - 1)).toNat 0 = 10 := by decide
      rw [e1, e2, e3]
      simp only [F.val3]
      exact ⟨fun _ => ⟨by omega, by omega, by omega, fun h => by simp at h, fun _ => ⟨by omega, by omega, by omega, by omega, fun h => by simp at h, fun _ => ⟨by omega, 2, by omega, by omega, rfl, rfl⟩⟩⟩, fun h => by simp at h⟩
    · have e2 : ((2 : Nat) : Int) * step = 2 * step := by simp
      have e3 : F.ten.getD (min ((2 : Nat) : Int) (3 - 1)).toNat 0 = 10 := by decide
      rw [e2, e3]
      simp only [F.val3]
      exact ⟨fun _ => ⟨by omega, by omega, by omega, fun h => by simp at h, fun _ => ⟨by omega, by omega, by omega, by omega, fun h => by simp at h, fun _ => ⟨by omega, 3, by omega, by omega, rfl, rfl⟩⟩⟩, fun h => by simp at h⟩
    · exact ⟨fun h => by simp at h, fun _ => rfl⟩
theorem sat58 : Sat Try.prog 58 s58 := sat0 fine [(89, s111), (90, s90)] (sat89.app (sat90.app Sat.none)) Try.func58 (by kernel_rfl) fun xs H e hsp hpre _ => by
  obtain ⟨rs, y, at_, step, count, rfl, rfl⟩ := sp5_inv hsp
  exact ⟨la58 y at_ step, noA, wp58_ok rs y at_ step count H (hpre _ (by simp [e58, retP2]))⟩
theorem tenA_ok : F.aright F.tenA = 0 := by kernel_rfl
theorem wrong_ten {y : Arr} (h1 : F.aright y = 0) (h2 : y.kind = 1) : F.wrong F.tenA y = 0 := by
  unfold F.wrong
  rw [if_neg (by rw [tenA_ok, h1]; simp), if_neg (by rw [h2]; simp [F.tenA, Arr.kind]), if_neg (by simp [F.tenA, Arr.shape])]
theorem sat24 : Sat Try.prog 24 s24 := sat2 fine [(55, s55), (35, s35), (42, s42), (58, s58)] (sat55.app (sat35.app (sat42.app (sat58.app Sat.none)))) Try.func24 (by kernel_rfl) fun (x y : Arr) H hpre _ _ => ⟨la24 y, noA, by
  refine (wp24 x y H).mpr ?_
  have hp : decPre x y := hpre _ (by simp [e24, retP2])
  obtain ⟨rfl, p2, p3, p4, p5, p6⟩ := hp
  rw [wrong_ten p2 p3]
  have hne : y.shape.length ≠ 0 := fun h => p6 (List.length_eq_zero_iff.1 h)
  have ok := F.aright_ok p2
  have hs1 := F.sright_drop 1 ok.s
  have hb := F.ssize_bd hs1
  have hly := ok.len
  rw [if_neg (by omega)] at hly
  have hpy : F.pr y.shape = y.shape.getD 0 0 * F.ssize (y.shape.drop 1) := by
    rw [F.ssize_pr hs1]
    have := F.pr_drop (s := y.shape) (k := 0) (by omega)
    simpa using this
  have hpb := F.sright_pr ok.s
  rw [hpy, p5] at hly
  rw [hpy, p5] at hpb
  have hdec : (F.dec y).nums = (List.range (F.ssize (y.shape.drop 1)).toNat).map fun (i : Nat) => F.val3 y.nums (i : Int) (F.ssize (y.shape.drop 1)) 3 := rfl
  have hdec2 : F.dec y = .mk 1 (y.shape.drop 1) (F.dec y).nums [] := rfl
  have hdl : (F.dec y).nums.length = (F.ssize (y.shape.drop 1)).toNat := by rw [hdec]; simp
  have hget : ∀ i : Nat, i < (F.dec y).nums.length → (F.dec y).nums.getD i 0 = F.val3 y.nums (i : Int) (F.ssize (y.shape.drop 1)) 3 := fun i hi => by
    rw [hdl] at hi
    rw [hdec]
    simp only [List.getD_eq_getElem?_getD, List.getElem?_map, List.getElem?_range hi, Option.map_some, Option.getD_some]
  have hL : LIM = 4294967296 := rfl
  have hx : (F.tenA.nums.length : Int) = 3 := rfl
  refine ⟨fun h => by simp at h, fun _ => ⟨fun h => absurd (of_decide_eq_true h) (by omega), fun _ => ?_⟩⟩
  simp only [Int.toNat_one, Int.toNat_zero, p5, hx]
  simp only [and_true, idx_iff, inR64]
  refine ⟨fun _ => by omega, fun h => by simp at h, fun _ => ⟨by omega, by omega, ⟨0, Nat.zero_le _, rfl, trivial, trivial, rfl⟩, fun i hi => ⟨fun hlt => ?_, fun hlt => ?_⟩⟩⟩
  · have hlt : (i : Int) < F.ssize (y.shape.drop 1) := by simpa using hlt
    have hi' : i < (F.dec y).nums.length := by omega
    rw [← hget i hi']
    refine ⟨by omega, ⟨rfl, p4, by omega, by omega, by omega, trivial, by omega, by omega⟩, fun h => by simp at h, fun _ => ⟨by simp; omega, by omega, i + 1, by omega, by omega, by simp, trivial, trivial, (take_snoc' 0 hi').symm⟩⟩
  · have hlt : F.ssize (y.shape.drop 1) ≤ (i : Int) := by simpa using hlt
    rw [List.take_of_length_le (by omega)]; exact hdec2.symm⟩
theorem F.sright1_of : ∀ (s : List Int) (p : Int), 1 ≤ p → (∀ d ∈ s, 1 ≤ d) → p * F.pr s ≤ 65536 → F.sright1 p s = true ∧ 1 ≤ F.pr s
  | [], p, _, _, _ => ⟨rfl, by simp [F.pr]⟩
  | d :: s, p, h1, h2, h3 => by
    have hd := h2 d (by simp)
    have hpr : ∀ l : List Int, (∀ d ∈ l, 1 ≤ d) → 1 ≤ F.pr l := by
      intro l hl
      induction l with
      | nil => simp [F.pr]
      | cons x l ih =>
        have := ih fun d hd => hl d (by simp [hd])
        have := Int.mul_le_mul (hl x (by simp)) this (by omega) (by have := hl x (by simp); omega)
        rw [F.pr]; omega
    have hs := hpr s fun z hz => h2 z (by simp [hz])
    have hpd : 1 ≤ p * d := by have := Int.mul_le_mul h1 hd (by omega) (by omega); omega
    rw [F.pr, ← Int.mul_assoc] at h3
    have ih := F.sright1_of s (p * d) hpd (fun z hz => h2 z (by simp [hz])) h3
    have hle : p * d ≤ 65536 := by
      have : p * d * 1 ≤ p * d * F.pr s := Int.mul_le_mul_of_nonneg_left hs (by omega)
      omega
    have hd2 : d ≤ 65536 := by
      have : 1 * d ≤ p * d := Int.mul_le_mul_of_nonneg_right h1 (by omega)
      omega
    refine ⟨?_, hpr (d :: s) h2⟩
    rw [F.sright1_cons, if_neg (by omega), if_neg (by omega), if_neg (by omega)]
    exact ih.1
theorem F.dig10 (n : Int) : F.dig F.tenA.nums n = ([n / 10 / 10 % 10, n / 10 % 10, n % 10], n / 10 / 10 / 10) := rfl
theorem F.enc_nums (y : Arr) : F.encN F.tenA y 3 = (y.nums.map (fun n => n / 10 / 10 % 10) ++ y.nums.map (fun n => n / 10 % 10)) ++ y.nums.map (fun n => n % 10) := by
  rw [F.encN_succ, F.encN_succ, F.encN_succ]
  rfl
theorem satTopDigits : Sat Try.prog 5 s5 := sat1 fine [(7, s7), (8, s8), (15, s15), (21, s21), (22, s22), (23, s23), (24, s24)] (sat7.app (sat8.app (sat15.app (sat21.app (sat22.app (sat23.app (sat24.app Sat.none))))))) Try.func5 (by kernel_rfl) fun (y : Arr) H _ hwf => ⟨la5 y, noA, by
  refine (wp5 y H).mpr ?_
  obtain ⟨_, _, w2, _⟩ := WF_arr hwf
  have hlen := WF_lenS w2
  refine ⟨fun _ => by omega, fun _ => ⟨rfl, trivial⟩, fun hc => ?_⟩
  have hc : F.few y 50 = true ∧ F.small y 999 = true ∧ y.shape.length < 8 ∧ y.nums.length ≠ 0 := by grind
  obtain ⟨c1, c2, c3, c4⟩ := hc
  refine ⟨⟨0, ⟨Nat.zero_le _, by simp⟩, rfl, trivial⟩, ?_⟩
  rintro i ⟨h1, h2⟩
  refine ⟨fun hi => ?_, fun hi => ?_⟩
  · have hi : i < y.nums.length := by simpa using hi
    simp only [and_true, idx_iff, inR64, toNat_cast]
    refine ⟨by omega, fun _ => trivial, fun hd => ⟨by omega, i + 1, ⟨by omega, fun n hn => ?_⟩, by omega, by simp⟩⟩
    rw [take_snoc' 0 hi] at hn
    rcases List.mem_append.1 hn with hn | hn
    · exact h2 n hn
    · have := List.mem_singleton.1 hn
      have := of_decide_eq_false hd
      omega
  have hall : y.nums.take i = y.nums := List.take_of_length_le (by simpa using hi)
  rw [hall] at h2
  have hten : Arr.mk (1 : Int) [(↑[(10 : Int), (10 : Int), (10 : Int)].length : Int)] [(10 : Int), (10 : Int), (10 : Int)] [] = F.tenA := rfl
  rw [hten]
  have c1 : F.aright y = 0 ∧ F.weight y ≤ 50 := by
    unfold F.few at c1
    simp only [Bool.and_eq_true, decide_eq_true_eq] at c1
    exact ⟨by unfold F.aright; rw [F.rcheck_visit y c1.2], c1.1⟩
  have c2 : y.kind = 1 ∧ ∀ n ∈ y.nums, -999 ≤ n ∧ n ≤ 999 := by
    unfold F.small at c2
    simp only [Bool.and_eq_true, Bool.not_eq_true', decide_eq_true_eq, List.any_eq_false, Bool.or_eq_true, not_or, Int.not_lt] at c2
    exact ⟨c2.2, fun n hn => c2.1 n hn⟩
  have ok := F.aright_ok c1.1
  have hz := ok.z
  rw [if_neg (by omega)] at hz
  have hly := ok.len
  rw [if_neg (by omega)] at hly
  have hN : y.nums.length ≤ 50 := by
    have := c1.2
    rw [F.weight_val, if_neg (by omega)] at this
    have hr : F.rsize y = y.nums.length := by unfold F.rsize; rw [if_pos (by omega)]
    omega
  have hpos : ∀ d ∈ y.shape, 1 ≤ d := fun d hd => by
    have h0 := F.sright_nn ok.s d hd
    by_cases he : d = 0
    · have hzz : F.hz y.shape = true := List.any_eq_true.2 ⟨d, hd, by simp [he]⟩
      have := F.pr_hz hzz
      omega
    · omega
  have hsr : F.sright ([(3 : Int)] ++ y.shape) = true := by
    refine F.sright_iff.2 ⟨by simp; omega, ?_⟩
    show F.sright1 1 (3 :: y.shape) = true
    refine (F.sright1_of (3 :: y.shape) 1 (by decide) (fun d hd => ?_) ?_).1
    · rcases List.mem_cons.1 hd with rfl | hd
      · decide
      · exact hpos d hd
    · rw [F.pr]; omega
  have hshape : F.tenA.shape = [3] := rfl
  have henc : F.enc F.tenA y = .mk 1 ([3] ++ y.shape) (F.encN F.tenA y 3) [] := rfl
  have hmem : ∀ q ∈ F.encN F.tenA y 3, 0 ≤ q ∧ q ≤ 9 := fun q hq => by
    rw [F.enc_nums] at hq
    simp only [List.mem_append, List.mem_map] at hq
    rcases hq with (⟨n, _, rfl⟩ | ⟨n, _, rfl⟩) | ⟨n, _, rfl⟩ <;> omega
  have hoke : F.aright (F.enc F.tenA y) = 0 := by
    rw [henc]
    refine F.ok_aright (F.ok_nums (b := 0) hsr ?_ fun q hq => by have := hmem q hq; omega)
    rw [F.encN_len]
    show ((3 * y.nums.length : Nat) : Int) = F.pr (3 :: y.shape)
    rw [F.pr, ← hly]; omega
  refine ⟨⟨wrong_ten c1.1 c2.1, fun q hq => ?_, fun n hn => ⟨h2 n hn, by have := c2.2 n hn; unfold F.big; omega⟩, hsr, by simp [F.tenA, Arr.nums], by omega⟩, ⟨rfl, hoke, rfl, hmem, rfl, by rw [henc]; simp [Arr.shape]⟩, by simp [inR64], ?_, trivial⟩
  · have : q = 10 := by simpa [F.tenA, Arr.nums] using hq
    subst this
    unfold F.big
    omega
  · have hdec : F.dec (F.enc F.tenA y) = y := by
      have hss : F.ssize y.shape = (y.nums.length : Int) := by rw [F.ssize_pr ok.s, hly]
      have e1 : F.dec (F.enc F.tenA y) = .mk 1 y.shape ((List.range (F.ssize y.shape).toNat).map fun (i : Nat) => F.val3 (F.encN F.tenA y 3) (i : Int) (F.ssize y.shape) 3) [] := rfl
      rw [e1, hss, toNat_cast]
      have e2 : ((List.range y.nums.length).map fun (i : Nat) => F.val3 (F.encN F.tenA y 3) (i : Int) (y.nums.length : Int) 3) = y.nums := by
        refine List.ext_getElem (by simp) fun j q1 q2 => ?_
        have hj : j < y.nums.length := q2
        have hv := c2.2 _ (List.getElem_mem hj)
        have hv2 := h2 _ (List.getElem_mem hj)
        simp only [List.getElem_map, List.getElem_range, F.val3]
        rw [F.enc_nums]
        have t1 : ((j : Int)).toNat = j := toNat_cast j
        have t2 : ((j : Int) + (y.nums.length : Int)).toNat = y.nums.length + j := by omega
        have t3 : ((j : Int) + 2 * (y.nums.length : Int)).toNat = y.nums.length + y.nums.length + j := by omega
        rw [t1, t2, t3]
        have g1 : ((y.nums.map (fun n => n / 10 / 10 % 10) ++ y.nums.map (fun n => n / 10 % 10)) ++ y.nums.map (fun n => n % 10)).getD j 0 = y.nums[j] / 10 / 10 % 10 := by
          rw [List.getD_eq_getElem?_getD, List.append_assoc, List.getElem?_append_left (by simpa using hj), List.getElem?_map, List.getElem?_eq_getElem hj]; rfl
        have g2 : ((y.nums.map (fun n => n / 10 / 10 % 10) ++ y.nums.map (fun n => n / 10 % 10)) ++ y.nums.map (fun n => n % 10)).getD (y.nums.length + j) 0 = y.nums[j] / 10 % 10 := by
          rw [List.getD_eq_getElem?_getD, List.append_assoc, List.getElem?_append_right (by simp), List.getElem?_append_left (by simp; omega), List.length_map, Nat.add_sub_cancel_left, List.getElem?_map, List.getElem?_eq_getElem hj]; rfl
        have g3 : ((y.nums.map (fun n => n / 10 / 10 % 10) ++ y.nums.map (fun n => n / 10 % 10)) ++ y.nums.map (fun n => n % 10)).getD (y.nums.length + y.nums.length + j) 0 = y.nums[j] % 10 := by
          rw [List.getD_eq_getElem?_getD, List.getElem?_append_right (by simp), List.length_append, List.length_map, List.length_map, Nat.add_sub_cancel_left, List.getElem?_map, List.getElem?_eq_getElem hj]; rfl
        rw [g1, g2, g3]
        omega
      rw [e2, ← c2.1, ← hz]
      cases y; rfl
    rw [hdec, (F.same_iff y y).2 rfl]; rfl⟩
end A
end Go.Proofs.Ythgnjimpakpkjaa
namespace Go.Proofs.Ythgnjimpakpkjaa
namespace A
section
variable {H : Type} {enc : TypeId × Value → H} {P : Program} {W W' : World} {tb : Tab}

theorem bulk_le {d : DataW H} : ∀ {l : List (DataW H)}, d ∈ l → Rows.uptoBulk d ≤ Rows.uptoBulkAll l
  | x :: l, h => by
    simp only [Rows.uptoBulkAll]
    rcases List.mem_cons.1 h with rfl | h
    · omega
    · have := bulk_le h; omega
theorem bulk_one (d : DataW H) : 1 ≤ Rows.uptoBulk d := by
  cases d with
  | lit l => cases l <;> simp [Rows.uptoBulk]
  | nil => simp [Rows.uptoBulk]
  | ptr d => simp [Rows.uptoBulk]
  | slice elems spare => simp [Rows.uptoBulk]
  | agg parts => simp [Rows.uptoBulk]
  | iface t d => simp [Rows.uptoBulk]
  | map entries => simp [Rows.uptoBulk]
  | held h => simp [Rows.uptoBulk]
theorem bulk_len : ∀ (l : List (DataW H)), l.length ≤ Rows.uptoBulkAll l
  | [] => by simp [Rows.uptoBulkAll]
  | x :: l => by
    have := bulk_one x
    have := bulk_len l
    simp only [Rows.uptoBulkAll, List.length_cons]; omega

/-- what is read at the type is a pure value -/
def Inn (enc : TypeId × Value → H) (P : Program) (W : World) (n : Nat) (t : TypeId) (u : Ty) : Prop :=
  ∀ (cs : List Value) (d : DataW H) (ps : List MemPlace), DataW.trod enc P W 0 (fun _ => true) true n t cs = some (d, ps) → Rows.uptoBulk d ≤ 1048576 → ∃ x : El u, Reps W (fun b => b < W.heap.size) u x cs
theorem Inn.zero {t : TypeId} {u : Ty} : Inn enc P W 0 t u := fun cs d ps h => by simp [DataW.trod] at h
theorem Inn.int {n : Nat} {t : TypeId} {k : IntKind} (ht : P.underlying t = some (.int k)) : Inn enc P W n t (.int k) := fun cs d ps h _ => by
  obtain ⟨m, rfl, _, hw⟩ := DataW.trod_int ht h
  refine ⟨m, Reps.int_iff.2 ⟨rfl, ?_⟩⟩
  simpa [Lit.wf, inR] using hw
theorem list_of {α : Type} {Q : Nat → α → Prop} : ∀ (k : Nat), (∀ i, i < k → ∃ x, Q i x) → ∃ l : List α, l.length = k ∧ ∀ (i : Nat) x, l[i]? = some x → Q i x
  | 0, _ => ⟨[], rfl, fun i x h => by simp at h⟩
  | k + 1, h => by
    obtain ⟨l, h1, h2⟩ := list_of k fun i hi => h i (by omega)
    obtain ⟨x, hx⟩ := h k (by omega)
    refine ⟨l ++ [x], by simp [h1], fun i y hy => ?_⟩
    by_cases hi : i < l.length
    · rw [List.getElem?_append_left hi] at hy; exact h2 i y hy
    · rw [List.getElem?_append_right (by omega)] at hy
      have : i - l.length = 0 := by
        by_cases h0 : i - l.length = 0
        · exact h0
        · rw [List.getElem?_eq_none (by simp; omega)] at hy; cases hy
      rw [this] at hy
      simp only [List.getElem?_cons_zero, Option.some.injEq] at hy
      subst hy
      rw [show i = k by omega]; exact hx
theorem cell_some {a : Addr} {v : Value} (h : W.cell? a = some v) : ∃ c T fz, W.heap[a.block]? = some (.cells c T fz) ∧ a.spot = none := by
  unfold World.cell? at h
  split at h
  · rename_i c T fz hc
    refine ⟨c, T, fz, hc, ?_⟩
    cases hs : a.spot with
    | none => rfl
    | some x => rw [hs] at h; simp at h
  · cases h
theorem lim_pos : 0 < LIM := by rw [LIM_eq]; omega
theorem Inn.slice {n : Nat} {t e : TypeId} {u : Ty} (ht : P.underlying t = some (.slice e)) (hc : P.cellsOf e = csize u) (hpos : 0 < csize u) (hI : Inn enc P W n e u) : Inn enc P W (n + 1) t (.sl u) := fun cs d ps h hb => by
  rcases DataW.trod_slice ht h with ⟨rfl, _⟩ | ⟨a, len, cap, elems, rest, m, hm, rfl, hx, _, hlc, _, hlen, hel, _, _⟩
  · exact ⟨[], Reps.sl_iff.2 ⟨none, 0, rfl, Nat.le_refl _, lim_pos, .inl rfl⟩⟩
  · obtain rfl : n = m := by omega
    obtain ⟨rfl, rfl⟩ := Prod.mk.inj hx
    simp only [Rows.uptoBulk] at hb
    have hle := bulk_len (elems.map (·.1))
    rw [List.length_map] at hle
    by_cases h0 : len = 0
    · subst h0
      exact ⟨[], Reps.sl_iff.2 ⟨some a, cap, rfl, Nat.zero_le _, lim_pos, .inl rfl⟩⟩
    · have cellsAt : ∀ i, i < len → ∃ us, us.length = csize u ∧ (∀ j, j < csize u → W.cell? ((a.add (i * csize u)).add j) = us[j]?) ∧ ∃ x : El u, Reps W (fun b => b < W.heap.size) u x us := fun i hi => by
        have h1 := hel i hi
        rw [List.getElem?_eq_getElem (by omega)] at h1
        obtain ⟨us, h2, h3⟩ := Option.bind_eq_some_iff.1 h1
        rw [hc] at h2
        obtain ⟨_, h4, h5⟩ := World.cells?_some h2
        obtain ⟨d', p'⟩ : DataW H × List MemPlace := elems[i]
        obtain ⟨x, hx⟩ := hI us (elems[i]'(by omega)).1 (elems[i]'(by omega)).2 h3 (by
          have := bulk_le (List.mem_map_of_mem (f := (·.1)) (List.getElem_mem (show i < elems.length by omega)))
          omega)
        exact ⟨us, h4, h5, x, hx⟩
      obtain ⟨us0, g1, g2, _⟩ := cellsAt 0 (by omega)
      have hadd : a.add 0 = a := by simp [Addr.add]
      have g3 := g2 0 hpos
      rw [Nat.zero_mul, hadd, hadd, List.getElem?_eq_getElem (by omega)] at g3
      obtain ⟨c, T, fz, hblk, hspot⟩ := cell_some g3
      have ha : a = ⟨a.block, a.off, none⟩ := by cases a; simp only at hspot; subst hspot; rfl
      have hcell : ∀ k, W.cell? (⟨a.block, a.off + k, none⟩ : Addr) = c[a.off + k]? := fun k => by simp [World.cell?, hblk]
      have haa : ∀ i j, (a.add i).add j = ⟨a.block, a.off + (i + j), none⟩ := fun i j => by
        rw [ha, add_none, add_none, Nat.add_assoc]
      obtain ⟨l, l1, l2⟩ := list_of (Q := fun i (x : El u) => ∃ us, us.length = csize u ∧ (∀ j, j < csize u → c[a.off + i * csize u + j]? = us[j]?) ∧ Reps W (fun b => b < W.heap.size) u x us) len fun i hi => by
        obtain ⟨us, h1, h2, x, hx⟩ := cellsAt i hi
        refine ⟨x, us, h1, fun j hj => ?_, hx⟩
        have := h2 j hj
        rw [haa, hcell] at this
        rw [← this]; congr 1; omega
      refine ⟨l, Reps.sl_iff.2 ⟨some a, cap, by rw [l1], by omega, by rw [l1, LIM_eq]; omega, .inr ⟨a.block, a.off, c, by rw [← ha], ?_, ?_, l2⟩⟩⟩
      · exact (Array.getElem?_eq_some_iff.1 hblk).1
      · unfold blk; rw [hblk]
end
end A
end Go.Proofs.Ythgnjimpakpkjaa
namespace Go.Proofs.Ythgnjimpakpkjaa
namespace A
open Go.ChangeShapes Go.WideShapes Go.ChangeAt Go.RowKit
section
variable {H : Type} {enc : TypeId × Value → H} {P : Program} {W W' : World} {tb : Tab}

theorem take_drop4 {a b c d : Value} : ([a, b, c, d].drop 0).take 1 = [a] ∧ ([a, b, c, d].drop 1).take 1 = [b] ∧ ([a, b, c, d].drop 2).take 1 = [c] ∧ ([a, b, c, d].drop 3).take 1 = [d] := ⟨rfl, rfl, rfl, rfl⟩
theorem four {α : Type} {l : List α} (h : l.length = 4) : ∃ a b c d, l = [a, b, c, d] := by
  match l, h with
  | [a, b, c, d], _ => exact ⟨a, b, c, d, rfl⟩
/-- the type of arrays -/
structure ArrT (P : Program) (tA tK tI tS tL : TypeId) : Prop where
  a : ∃ fl : Array Field, P.underlying tA = some (.struct fl) ∧ fl.toList.map (fun f => (f.offset, f.type)) = [(0, tK), (1, tS), (2, tS), (3, tL)]
  k : P.underlying tK = some (.int .i64)
  i : P.underlying tI = some (.int .i64)
  s : P.underlying tS = some (.slice tI)
  l : P.underlying tL = some (.slice tA)
  ca : P.cellsOf tA = 4
  ck : P.cellsOf tK = 1
  ci : P.cellsOf tI = 1
  cs : P.cellsOf tS = 1
  cl : P.cellsOf tL = 1
theorem fields4 {fl : Array Field} {l : List (Nat × Nat)} (h : fl.toList.map (fun f => (f.offset, f.type)) = l) {i : Nat} {o t : Nat} (hi : l[i]? = some (o, t)) : ∃ f, fl[i]? = some f ∧ f.offset = o ∧ f.type = t := by
  rw [← h, List.getElem?_map] at hi
  cases hf : fl.toList[i]? with
  | none => rw [hf] at hi; cases hi
  | some f =>
    rw [hf] at hi
    simp only [Option.map_some, Option.some.injEq, Prod.mk.injEq] at hi
    exact ⟨f, by rw [← hf, Array.getElem?_toList], hi.1, hi.2⟩
theorem Inn.arr {tA tK tI tS tL : TypeId} (hT : ArrT P tA tK tI tS tL) : ∀ n, Inn enc P W n tA (.rc .arr) := by
  intro n
  induction n using Nat.strongRecOn with
  | _ n ih =>
    intro cs d ps h hb
    obtain ⟨fl, hu, hf⟩ := hT.a
    obtain ⟨xs, m, rfl, hx, hlen, hxl, hxs⟩ := DataW.trod_struct hu h
    obtain ⟨rfl, rfl⟩ := Prod.mk.inj hx
    rw [hT.ca] at hlen
    obtain ⟨c0, c1, c2, c3, rfl⟩ := four hlen
    simp only [Rows.uptoBulk] at hb
    have hS : Inn enc P W m tS SI := by
      cases m with
      | zero => exact Inn.zero
      | succ m => exact Inn.slice hT.s hT.ci (by decide) (Inn.int hT.i)
    have hL : Inn enc P W m tL SA := by
      cases m with
      | zero => exact Inn.zero
      | succ m => exact Inn.slice hT.l hT.ca (by decide) (ih m (by omega))
    have part : ∀ (i o t : Nat) (u : Ty), ([(0, tK), (1, tS), (2, tS), (3, tL)] : List (Nat × Nat))[i]? = some (o, t) → Inn enc P W m t u → P.cellsOf t = 1 → ∃ x : El u, Reps W (fun b => b < W.heap.size) u x (([c0, c1, c2, c3].drop o).take 1) := by
      intro i o t u hi hI hc
      obtain ⟨f, hf1, rfl, rfl⟩ := fields4 hf hi
      have h1 := hxs i f hf1
      have hlt : i < xs.length := by
        rw [hxl]
        exact (Array.getElem?_eq_some_iff.1 hf1).1
      rw [hc, List.getElem?_eq_getElem hlt] at h1
      refine hI _ xs[i].1 xs[i].2 h1 ?_
      have := bulk_le (List.mem_map_of_mem (f := (·.1)) (List.getElem_mem hlt))
      omega
    obtain ⟨x0, h0⟩ := part 0 0 tK I64 rfl (Inn.int hT.k) hT.ck
    obtain ⟨x1, h1⟩ := part 1 1 tS SI rfl hS hT.cs
    obtain ⟨x2, h2⟩ := part 2 2 tS SI rfl hS hT.cs
    obtain ⟨x3, h3⟩ := part 3 3 tL SA rfl hL hT.cl
    exact ⟨Arr.mk x0 x1 x2 x3, Reps.rc_iff.2 (Reps.pair (a := I64) (b := .pair SI (.pair SI SA)) (x := (x0, x1, x2, x3)) h0 (Reps.pair (a := SI) (b := .pair SI SA) (x := (x1, x2, x3)) h1 (Reps.pair (a := SI) (b := SA) (x := (x2, x3)) h2 h3)))⟩
/-- one argument that is an array -/
theorem arr_arg {tA tK tI tS tL : TypeId} (hT : ArrT P tA tK tI tS tL) {base : Nat} {v : Value} {d : DataW H} {ps : List MemPlace} (hv : Value.okWide P W .any base tA v)
    (h : DataW.Trod enc P W 0 (fun _ => true) true tA v d ps) (hb : Rows.uptoBulk d ≤ 1048576) : ∃ y : Arr, ∀ (B : Base) (pl : Nat → Place), AV1 P B pl (fun b => b < W.heap.size) W (.val (.rc .arr) y) v := by
  obtain ⟨n, hn⟩ := h
  obtain ⟨y, hy⟩ := Inn.arr hT n _ _ _ hn hb
  obtain ⟨fl, hu, _⟩ := hT.a
  unfold Value.okWide at hv
  rw [hu] at hv
  obtain ⟨cs, rfl, _, _⟩ := hv
  exact ⟨y, fun _ _ => ⟨cs.toList, rfl, hy⟩⟩
/-- a world with no objects -/
theorem GR.none (W : World) (pl : Nat → Place) (ro : Nat → Bool) : GR P ⟨W, fun b => b < W.heap.size, fun _ => False, ro⟩ pl (fun b => b < W.heap.size) W (fun _ => .free) :=
  ⟨fun _ h => h, fun _ _ h => (by cases h), fun _ _ _ _ h => (by cases h), fun _ _ h => (by cases h), Nat.le_refl _, Io.refl _, fun _ _ _ => rfl, fun _ h => h, fun _ h => .inl h, fun _ _ h => (by cases h)⟩
/-- what a call leaves: the old blocks, the system -/
structure Left' (W W' : World) : Prop where
  io : Io W W'
  old : ∀ b, b < W.heap.size → W'.heap[b]? = W.heap[b]?
theorem Left'.kept (h : Left' W W') (may : MemPlace → Prop) : W.keptBut W' may := by
  refine ⟨h.io.1, h.io.2, fun i hi => ?_⟩
  rw [h.old i hi]
  split
  · rename_i e1 e2
    rw [e1] at e2
    cases e2
    exact ⟨rfl, rfl, rfl, fun _ _ => rfl⟩
  · rename_i e1 e2
    rw [e1] at e2
    cases e2
    exact .inr ⟨rfl, rfl⟩
  · rfl
theorem Left'.same (h : Left' W W') {p : MemPlace} (hp : p.block < W.heap.size) : W.sameAt W' p := by
  cases p with
  | cell b off => simp only [World.sameAt, World.cell?]; rw [h.old b hp]
  | map b => exact h.old b hp
/-- a law's result is true, and its arguments read as before -/
theorem post_true {f : Func} {s : ChangeSpec} {apart fresh : Bool} {args : Array Value} {ds gs : List (DataW H)} {before : List MemPlace} {tB : TypeId} (hB : P.underlying tB = some .bool)
    (hW : DataW.Whole enc P f.params.toList s.vars apart W args.toList ds gs before) (hl : Left' W W') (hrt : f.resultTypes = #[tB]) (hvars : s.vars = []) (hgs : gs = [])
    (hres : (s.fn H (ds ++ gs)).results = [.lit (.bool true)]) (hfa : (s.fn H (ds ++ gs)).args = ds) (hfv : (s.fn H (ds ++ gs)).vars = [])
    (hargs : ∀ sp : Nat → Bool, (∀ p ∈ before, sp p.block = true) → DataW.TrodAll enc P W' 0 sp true f.params.toList args.toList ds before) :
    s.post enc P f apart fresh false false W args (.bool true) W' := by
  have hold : ∀ p ∈ before, (fun b => decide (b < W.heap.size)) p.block = true := fun p hp => by simpa using hW.lt p hp
  have hr : ∀ (b : Nat) (sp : Nat → Bool) (hd : Bool), DataW.TrodAll enc P W' b sp hd f.resultTypes.toList ((Value.bool true).resultList f.resultTypes.size) (s.fn H (ds ++ gs)).results [] := fun b sp hd => by
    rw [hres, hrt]
    exact trodAll_cons_mk (shut_bool hB _) trodAll_mk0
  have hv0 : ∀ sp : Nat → Bool, DataW.TrodVars enc P W' sp s.vars (s.fn H (ds ++ gs)).vars [] := fun sp => by rw [hvars, hfv]; rfl
  exact ⟨ds, gs, before, [], before, [], hW, hr _ _ _, by rw [hfa]; exact hargs _ hold, hv0 _, hl.kept _, fun h => (by cases h)⟩
/-- what the calculus says of a law's call -/
theorem post_left {pl : Nat → Place} {ro : Nat → Bool} {wr : List (Nat × Obj)} {v : Value}
    (h : Post P ⟨W, fun b => b < W.heap.size, fun _ => False, ro⟩ (fun _ => .free) pl (fun b => b < W.heap.size) W wr (.val .bool true) v W') : v = .bool true ∧ Left' W W' := by
  obtain ⟨pl', Z', h1, _, _, h4, _⟩ := h
  have h4 : AV1 P _ pl' Z' W' (.val .bool true) v := h4
  have h5 : Reps W' Z' .bool true [v] := h4
  have h6 := Reps.bool_iff.1 h5
  exact ⟨by simpa using h6, h1.io, fun b hb => h1.old b hb (fun h => h)⟩
/-- from a specification to the call: one array -/
theorem calls1 {f : Nat} {e : Arr → Eff} (hS : Sat P f (sp1 (.rc .arr) e)) {y : Arr} (he : e y = ⟨[], .val .bool true, []⟩) {v : Value}
    (hv : ∀ B pl, AV1 P B pl (fun b => b < W.heap.size) W (.val (.rc .arr) y) v) : Calls P f #[v] W fun ex W' => ex = .returned (.bool true) ∧ Left' W W' := by
  have h := hS W (fun b => b < W.heap.size) (fun _ => False) (fun _ => .box 0) (fun _ => .free) [.val (.rc .arr) y] [v] ⟨[], .val .bool true, []⟩ (by rw [← he]; simp [sp1, castT]; rfl) (fun p hp => (by cases hp)) (GR.none W _ _) ⟨hv _ _, trivial⟩
    (fun a ha o ho => by rw [List.mem_singleton.1 ha] at ho; cases ho) (fun o ho => by cases ho)
  refine h.2.mono fun ex W' ⟨v', h1, h2⟩ => ?_
  obtain ⟨rfl, h3⟩ := post_left h2
  exact ⟨h1, h3⟩
/-- two arrays -/
theorem calls2 {f : Nat} {e : Arr → Arr → Eff} (hS : Sat P f (sp2 (.rc .arr) (.rc .arr) e)) {x y : Arr} (he : e x y = ⟨[], .val .bool true, []⟩) {u v : Value}
    (hu : ∀ B pl, AV1 P B pl (fun b => b < W.heap.size) W (.val (.rc .arr) x) u) (hv : ∀ B pl, AV1 P B pl (fun b => b < W.heap.size) W (.val (.rc .arr) y) v) : Calls P f #[u, v] W fun ex W' => ex = .returned (.bool true) ∧ Left' W W' := by
  have h := hS W (fun b => b < W.heap.size) (fun _ => False) (fun _ => .box 0) (fun _ => .free) [.val (.rc .arr) x, .val (.rc .arr) y] [u, v] ⟨[], .val .bool true, []⟩ (by rw [← he]; simp [sp2, castT]; rfl) (fun p hp => (by cases hp)) (GR.none W _ _) ⟨hu _ _, hv _ _, trivial⟩
    (fun a ha o ho => by
      simp only [List.mem_cons, List.not_mem_nil, or_false] at ha
      rcases ha with rfl | rfl <;> cases ho) (fun o ho => by cases ho)
  refine h.2.mono fun ex W' ⟨v', h1, h2⟩ => ?_
  obtain ⟨rfl, h3⟩ := post_left h2
  exact ⟨h1, h3⟩
end
/-- the type of arrays of this program -/
theorem arrT : ArrT Try.prog 26 22 3 23 24 where
  a := und_of tok (t := 26) (i := { k := .struct [(0, 22), (1, 23), (2, 23), (3, 24)], ty := some (.rc .arr), size := 4, bytes := 80, zs := [.tz (.int .i64), .nils, .nils, .nils] }) rfl
  k := by kernel_rfl
  i := by kernel_rfl
  s := by kernel_rfl
  l := by kernel_rfl
  ca := by kernel_rfl
  ck := by kernel_rfl
  ci := by kernel_rfl
  cs := by kernel_rfl
  cl := by kernel_rfl
theorem bool4 : Try.prog.underlying 4 = some .bool := by kernel_rfl
theorem laid : laidOutB Try.prog = true := by kernel_rfl
theorem own : ownKnob Try.prog.godebug = none := by kernel_rfl
theorem rec26 : Try.prog.readableRec 26 = true := by kernel_rfl
theorem size26 : 26 < Try.prog.types.size := of_decide_eq_true (by kernel_rfl)
end A
end Go.Proofs.Ythgnjimpakpkjaa
