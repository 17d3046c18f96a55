import Derived.Test.YtcpbhpebeoopkaaGreatK2
namespace Go.Sx
open Go.RowKit
set_option linter.unusedVariables false
noncomputable def pR (k_ : Int) : Option (Int × Int × Int) :=
  if k_ = 1 then (some ((64 : Int), (64 : Int), (16 : Int))) else (if k_ = 2 then (some ((32 : Int), (32 : Int), (8 : Int))) else (some ((0 : Int), (0 : Int), (0 : Int))))
noncomputable def jV (n : Int) (lo : Int) (hi : Int) : Option Bool :=
  some ((decide (lo ≤ n)) && (decide (n ≤ hi)))
noncomputable def qQ  : Option Int :=
  some (0 : Int)
noncomputable def oK (k_ : Int) (bF : UInt32) (aB : Int) (bf : Int) (bu : List UInt8) (aA : List UInt8) (r_ : (Int × Int × Int)) (aC : Bool) : Option Int :=
  if aC = true then (some (23 : Int)) else (if ((decide (k_ = 2)) && (decide ((65535 : UInt32) < bF))) = true then (some (24 : Int)) else ((jV aB (0 : Int) (255 : Int)).bind fun iO => if (!iO) = true then (some (25 : Int)) else ((jV bf (0 : Int) r_.2.1).bind fun qw => if (!qw) = true then (some (26 : Int)) else (if r_.2.2 < ((bu.length : Nat) : Int) then (some (27 : Int)) else (if r_.2.2 < ((aA.length : Nat) : Int) then (some (28 : Int)) else (qQ))))))
noncomputable def mM (k_ : Int) (aP : Int) (dA : Int) (aT : Int) (bn : Int) (aH : UInt64) (bF : UInt32) (aB : Int) (bf : Int) (bu : List UInt8) (aA : List UInt8) (r_ : (Int × Int × Int)) (least : Int) : Option Int :=
  (jV aP (1 : Int) r_.2.1).bind fun aQ => if (!aQ) = true then (some (20 : Int)) else ((jV dA (0 : Int) r_.2.1).bind fun bI => if (!bI) = true then (some (8 : Int)) else ((jV aT (0 : Int) (255 : Int)).bind fun dN => if (!dN) = true then (some (21 : Int)) else ((jV bn least (255 : Int)).bind fun ja => if (!ja) = true then (some (22 : Int)) else (if ((decide (bF ≠ 0)) && (decide ((4294967296 : UInt64) ≤ aH))) = true then (oK k_ bF aB bf bu aA r_ ((decide (bF ≠ 0)) && (decide ((4294967296 : UInt64) ≤ aH)))) else (oK k_ bF aB bf bu aA r_ (((decide (bF = 0)) && (decide (k_ = 2))) && (decide ((281474976710656 : UInt64) ≤ aH))))))))
noncomputable def nZ (k_ : Int) (aP : Int) (dA : Int) (aT : Int) (bn : Int) (cu : UInt32) (aH : UInt64) (bF : UInt32) (aB : Int) (bf : Int) (bu : List UInt8) (aA : List UInt8) : Option Int :=
  (pR k_).bind fun r_ => if r_.2.1 = 0 then (some (1 : Int)) else (if bF ≠ 0 then (mM k_ aP dA aT bn aH bF aB bf bu aA r_ (0 : Int)) else (mM k_ aP dA aT bn aH bF aB bf bu aA r_ (1 : Int)))
noncomputable def oZ (k_ : Int) : Option (List (Int × Int × Int × List UInt8 × Int)) :=
  if k_ = 1 then (some ([((1 : Int), (0 : Int), (1 : Int), ([100, 105, 103, 101, 115, 116] : List UInt8), (20 : Int)), ((2 : Int), (1 : Int), (1 : Int), ([107, 101, 121] : List UInt8), (8 : Int)), ((3 : Int), (2 : Int), (1 : Int), ([102, 97, 110, 111, 117, 116] : List UInt8), (21 : Int)), ((4 : Int), (3 : Int), (1 : Int), ([100, 101, 112, 116, 104] : List UInt8), (22 : Int)), ((5 : Int), (4 : Int), (4 : Int), ([108, 101, 97, 102] : List UInt8), (1 : Int)), ((6 : Int), (8 : Int), (8 : Int), ([111, 102, 102, 115, 101, 116] : List UInt8), (23 : Int)), ((7 : Int), (12 : Int), (4 : Int), ([120, 111, 102] : List UInt8), (24 : Int)), ((8 : Int), (16 : Int), (1 : Int), ([110, 111, 100, 101] : List UInt8), (25 : Int)), ((9 : Int), (17 : Int), (1 : Int), ([105, 110, 110, 101, 114] : List UInt8), (26 : Int))] : List (Int × Int × Int × List UInt8 × Int))) else ((aF ([((1 : Int), (0 : Int), (1 : Int), ([100, 105, 103, 101, 115, 116] : List UInt8), (20 : Int)), ((2 : Int), (1 : Int), (1 : Int), ([107, 101, 121] : List UInt8), (8 : Int)), ((3 : Int), (2 : Int), (1 : Int), ([102, 97, 110, 111, 117, 116] : List UInt8), (21 : Int)), ((4 : Int), (3 : Int), (1 : Int), ([100, 101, 112, 116, 104] : List UInt8), (22 : Int)), ((5 : Int), (4 : Int), (4 : Int), ([108, 101, 97, 102] : List UInt8), (1 : Int)), ((6 : Int), (8 : Int), (8 : Int), ([111, 102, 102, 115, 101, 116] : List UInt8), (23 : Int)), ((7 : Int), (12 : Int), (4 : Int), ([120, 111, 102] : List UInt8), (24 : Int)), ((8 : Int), (16 : Int), (1 : Int), ([110, 111, 100, 101] : List UInt8), (25 : Int)), ((9 : Int), (17 : Int), (1 : Int), ([105, 110, 110, 101, 114] : List UInt8), (26 : Int))] : List (Int × Int × Int × List UInt8 × Int)) (5 : Int)).bind fun aC => (aF (([((1 : Int), (0 : Int), (1 : Int), ([100, 105, 103, 101, 115, 116] : List UInt8), (20 : Int)), ((2 : Int), (1 : Int), (1 : Int), ([107, 101, 121] : List UInt8), (8 : Int)), ((3 : Int), (2 : Int), (1 : Int), ([102, 97, 110, 111, 117, 116] : List UInt8), (21 : Int)), ((4 : Int), (3 : Int), (1 : Int), ([100, 101, 112, 116, 104] : List UInt8), (22 : Int)), ((5 : Int), (4 : Int), (4 : Int), ([108, 101, 97, 102] : List UInt8), (1 : Int)), ((6 : Int), (8 : Int), (8 : Int), ([111, 102, 102, 115, 101, 116] : List UInt8), (23 : Int)), ((7 : Int), (12 : Int), (4 : Int), ([120, 111, 102] : List UInt8), (24 : Int)), ((8 : Int), (16 : Int), (1 : Int), ([110, 111, 100, 101] : List UInt8), (25 : Int)), ((9 : Int), (17 : Int), (1 : Int), ([105, 110, 110, 101, 114] : List UInt8), (26 : Int))] : List (Int × Int × Int × List UInt8 × Int)).set (Int.toNat (5 : Int)) (aC.1, aC.2.1, (6 : Int), aC.2.2.2.1, aC.2.2.2.2)) (6 : Int)).bind fun x_1 => (aF ((([((1 : Int), (0 : Int), (1 : Int), ([100, 105, 103, 101, 115, 116] : List UInt8), (20 : Int)), ((2 : Int), (1 : Int), (1 : Int), ([107, 101, 121] : List UInt8), (8 : Int)), ((3 : Int), (2 : Int), (1 : Int), ([102, 97, 110, 111, 117, 116] : List UInt8), (21 : Int)), ((4 : Int), (3 : Int), (1 : Int), ([100, 101, 112, 116, 104] : List UInt8), (22 : Int)), ((5 : Int), (4 : Int), (4 : Int), ([108, 101, 97, 102] : List UInt8), (1 : Int)), ((6 : Int), (8 : Int), (8 : Int), ([111, 102, 102, 115, 101, 116] : List UInt8), (23 : Int)), ((7 : Int), (12 : Int), (4 : Int), ([120, 111, 102] : List UInt8), (24 : Int)), ((8 : Int), (16 : Int), (1 : Int), ([110, 111, 100, 101] : List UInt8), (25 : Int)), ((9 : Int), (17 : Int), (1 : Int), ([105, 110, 110, 101, 114] : List UInt8), (26 : Int))] : List (Int × Int × Int × List UInt8 × Int)).set (Int.toNat (5 : Int)) (aC.1, aC.2.1, (6 : Int), aC.2.2.2.1, aC.2.2.2.2)).set (Int.toNat (6 : Int)) (x_1.1, x_1.2.1, (2 : Int), x_1.2.2.2.1, x_1.2.2.2.2)) (7 : Int)).bind fun bY => (aF (((([((1 : Int), (0 : Int), (1 : Int), ([100, 105, 103, 101, 115, 116] : List UInt8), (20 : Int)), ((2 : Int), (1 : Int), (1 : Int), ([107, 101, 121] : List UInt8), (8 : Int)), ((3 : Int), (2 : Int), (1 : Int), ([102, 97, 110, 111, 117, 116] : List UInt8), (21 : Int)), ((4 : Int), (3 : Int), (1 : Int), ([100, 101, 112, 116, 104] : List UInt8), (22 : Int)), ((5 : Int), (4 : Int), (4 : Int), ([108, 101, 97, 102] : List UInt8), (1 : Int)), ((6 : Int), (8 : Int), (8 : Int), ([111, 102, 102, 115, 101, 116] : List UInt8), (23 : Int)), ((7 : Int), (12 : Int), (4 : Int), ([120, 111, 102] : List UInt8), (24 : Int)), ((8 : Int), (16 : Int), (1 : Int), ([110, 111, 100, 101] : List UInt8), (25 : Int)), ((9 : Int), (17 : Int), (1 : Int), ([105, 110, 110, 101, 114] : List UInt8), (26 : Int))] : List (Int × Int × Int × List UInt8 × Int)).set (Int.toNat (5 : Int)) (aC.1, aC.2.1, (6 : Int), aC.2.2.2.1, aC.2.2.2.2)).set (Int.toNat (6 : Int)) (x_1.1, x_1.2.1, (2 : Int), x_1.2.2.2.1, x_1.2.2.2.2)).set (Int.toNat (7 : Int)) (bY.1, (14 : Int), bY.2.2.1, bY.2.2.2.1, bY.2.2.2.2)) (8 : Int)).bind fun iy => some ((((([((1 : Int), (0 : Int), (1 : Int), ([100, 105, 103, 101, 115, 116] : List UInt8), (20 : Int)), ((2 : Int), (1 : Int), (1 : Int), ([107, 101, 121] : List UInt8), (8 : Int)), ((3 : Int), (2 : Int), (1 : Int), ([102, 97, 110, 111, 117, 116] : List UInt8), (21 : Int)), ((4 : Int), (3 : Int), (1 : Int), ([100, 101, 112, 116, 104] : List UInt8), (22 : Int)), ((5 : Int), (4 : Int), (4 : Int), ([108, 101, 97, 102] : List UInt8), (1 : Int)), ((6 : Int), (8 : Int), (8 : Int), ([111, 102, 102, 115, 101, 116] : List UInt8), (23 : Int)), ((7 : Int), (12 : Int), (4 : Int), ([120, 111, 102] : List UInt8), (24 : Int)), ((8 : Int), (16 : Int), (1 : Int), ([110, 111, 100, 101] : List UInt8), (25 : Int)), ((9 : Int), (17 : Int), (1 : Int), ([105, 110, 110, 101, 114] : List UInt8), (26 : Int))] : List (Int × Int × Int × List UInt8 × Int)).set (Int.toNat (5 : Int)) (aC.1, aC.2.1, (6 : Int), aC.2.2.2.1, aC.2.2.2.2)).set (Int.toNat (6 : Int)) (x_1.1, x_1.2.1, (2 : Int), x_1.2.2.2.1, x_1.2.2.2.2)).set (Int.toNat (7 : Int)) (bY.1, (14 : Int), bY.2.2.1, bY.2.2.2.1, bY.2.2.2.2)).set (Int.toNat (8 : Int)) (iy.1, (15 : Int), iy.2.2.1, iy.2.2.2.1, iy.2.2.2.2)))
noncomputable def vW (aP : Int) (dA : Int) (aT : Int) (bn : Int) (cu : UInt32) (aH : UInt64) (bF : UInt32) (aB : Int) (bf : Int) (bu : List UInt8) (aA : List UInt8) (field : Int) : Option UInt64 :=
  if field = 1 then (some (UInt64.ofInt aP)) else (if field = 2 then (some (UInt64.ofInt dA)) else (if field = 3 then (some (UInt64.ofInt aT)) else (if field = 4 then (some (UInt64.ofInt bn)) else (if field = 5 then (some (UInt64.ofNat cu.toNat)) else (if field = 6 then (some aH) else (if field = 7 then (some (UInt64.ofNat bF.toNat)) else (if field = 8 then (some (UInt64.ofInt aB)) else (some (UInt64.ofInt bf)))))))))
noncomputable def qx (at_ : Int) (size : Int) (v : UInt64) : (List UInt8 × Int) → Option ((List UInt8 × Int) ⊕ (List UInt8))
  | (b1, aC) => if aC < size then ((need (0 ≤ aI (8 * aC))).bind fun u => (aF b1 (aI (at_ + aC))).bind fun x_1 => some (.inl (b1.set (Int.toNat (aI (at_ + aC))) (UInt8.ofNat (jR v (Int.toNat (aI (8 * aC)))).toNat), aI (aC + 1)))) else (Option.map Sum.inr (some b1))
noncomputable def wG (b : List UInt8) (at_ : Int) (size : Int) (v : UInt64) : Option (List UInt8) :=
  aX (qx at_ size v) (b, (0 : Int))
noncomputable def pY (aC : Int) (b1 : List UInt8) : Option ((List UInt8 × Int) ⊕ (List UInt8 × Int)) :=
  some (.inl (b1, aI (aC + 1)))
noncomputable def nR (aC : Int) (b2 : List UInt8) : Option ((List UInt8 × Int) ⊕ (List UInt8 × Int)) :=
  pY aC b2
noncomputable def lS (aP : Int) (dA : Int) (aT : Int) (bn : Int) (cu : UInt32) (aH : UInt64) (bF : UInt32) (aB : Int) (bf : Int) (bu : List UInt8) (aA : List UInt8) (aQ : (Int × Int × Int)) (bI : (List (Int × Int × Int × List UInt8 × Int))) : (List UInt8 × Int) → Option ((List UInt8 × Int) ⊕ (List UInt8 × Int))
  | (b, aC) => if aC < ((bI.length : Nat) : Int) then ((aF bI aC).bind fun bY => if ((decide (bY.1 = 7)) && (decide (bF = 0))) = true then (nR aC b) else ((vW aP dA aT bn cu aH bF aB bf bu aA bY.1).bind fun dN => (wG b bY.2.1 bY.2.2.1 dN).bind fun ja => nR aC ja)) else (Option.map Sum.inr ((Ba b (aI (aQ.1 - (aI (2 * aQ.2.2)))) ((Int.toNat aQ.1 : Nat) : Int)).bind fun b3 => (Ba (Ry b (Int.toNat (aI (aQ.1 - (aI (2 * aQ.2.2))))) b3.length bu) (aI (aQ.1 - aQ.2.2)) ((Int.toNat aQ.1 : Nat) : Int)).bind fun b4 => some (Ry (Ry b (Int.toNat (aI (aQ.1 - (aI (2 * aQ.2.2))))) b3.length bu) (Int.toNat (aI (aQ.1 - aQ.2.2))) b4.length aA, (0 : Int))))
noncomputable def lH (k_ : Int) (aP : Int) (dA : Int) (aT : Int) (bn : Int) (cu : UInt32) (aH : UInt64) (bF : UInt32) (aB : Int) (bf : Int) (bu : List UInt8) (aA : List UInt8) : Option (List UInt8 × Int) :=
  (nZ k_ aP dA aT bn cu aH bF aB bf bu aA).bind fun r_ => if r_ ≠ 0 then (some (([] : List UInt8), r_)) else ((pR k_).bind fun aQ => (need ((0 : Int) ≤ aQ.1 ∧ (aQ.1 : Int) ≤ aQ.1 ∧ Int.toNat aQ.1 * 1 ≤ 140737488355328)).bind fun u => (oZ k_).bind fun bI => aX (lS aP dA aT bn cu aH bF aB bf bu aA aQ bI) (List.replicate (Int.toNat aQ.1) (0 : UInt8), (0 : Int)))
noncomputable def zq  : Option (Vec UInt64 8) :=
  some (⟨[(7640891576956012808 : UInt64), (13503953896175478587 : UInt64), (4354685564936845355 : UInt64), (11912009170470909681 : UInt64), (5840696475078001361 : UInt64), (11170449401992604703 : UInt64), (2270897969802886507 : UInt64), (6620516959819538809 : UInt64)], rfl⟩ : Vec UInt64 8)
noncomputable def uD (b : List UInt8) (at_ : Int) (n : Int) : (UInt64 × Int) → Option ((UInt64 × Int) ⊕ (UInt64 × Int))
  | (w_, aC) => if aC < n then ((aF b (aI (at_ + aC))).bind fun bY => (need (0 ≤ aI (8 * aC))).bind fun u => some (.inl (w_ ||| (o_ (UInt64.ofNat bY.toNat) (Int.toNat (aI (8 * aC)))), aI (aC + 1)))) else (Option.map Sum.inr (some (w_, (0 : Int))))
noncomputable def uf (b : List UInt8) (at_ : Int) (n : Int) : Option (UInt64 × Int) :=
  if at_ < 0 then (some ((0 : UInt64), (1 : Int))) else (if ((decide (((b.length : Nat) : Int) < at_)) || (decide ((aI (((b.length : Nat) : Int) - at_)) < n))) = true then (some ((0 : UInt64), (3 : Int))) else (aX (uD b at_ n) ((0 : UInt64), (0 : Int))))
noncomputable def mr (b : List UInt8) (at_ : Int) : Option (UInt64 × Int) :=
  (uf b at_ (8 : Int)).bind fun r_ => some (r_.1, r_.2)
noncomputable def rX (block : List UInt8) : (Vec UInt64 8 × Int) → Option ((Vec UInt64 8 × Int) ⊕ (Vec UInt64 8 × Int))
  | (h, aC) => if aC < 8 then ((mr block (aI (8 * aC))).bind fun aQ => (aF h.l aC).bind fun bY => (aF h.l aC).bind fun iy => (some (jy h aC (bY ^^^ aQ.1))).bind fun v => some (.inl (v, aI (aC + 1)))) else (Option.map Sum.inr (some (h, (0 : Int))))
noncomputable def uF (block : List UInt8) : Option (Vec UInt64 8 × Int) :=
  if ((block.length : Nat) : Int) ≠ 64 then (some ((Vec.rep 8 ((0 : UInt64) : UInt64)), (1 : Int))) else ((zq).bind fun r_ => aX (rX block) (r_, (0 : Int)))
noncomputable def qU (b : List UInt8) (n : Int) : Option Int :=
  if ((b.length : Nat) : Int) < n then (some (3 : Int)) else (if n < ((b.length : Nat) : Int) then (some (2 : Int)) else (some (0 : Int)))
noncomputable def pU (b : List UInt8) (at_ : Int) : Option (UInt32 × Int) :=
  (uf b at_ (4 : Int)).bind fun r_ => some (UInt32.ofNat r_.1.toNat, r_.2)
noncomputable def pz (m_ : List UInt32) (b : List UInt8) : (List UInt32 × Int) → Option ((List UInt32 × Int) ⊕ (List UInt32))
  | (vX, aC) => if aC < ((m_.length : Nat) : Int) then ((pU b (aI (4 * aC))).bind fun r_ => (aF vX aC).bind fun x_1 => some (.inl (vX.set (Int.toNat aC) r_.1, aI (aC + 1)))) else (Option.map Sum.inr (some vX))
noncomputable def qY (m_ : List UInt32) (b : List UInt8) : Option (List UInt32) :=
  aX (pz m_ b) (m_, (0 : Int))
noncomputable def zt  : Option (Vec UInt32 8) :=
  some (⟨[(1779033703 : UInt32), (3144134277 : UInt32), (1013904242 : UInt32), (2773480762 : UInt32), (1359893119 : UInt32), (2600822924 : UInt32), (528734635 : UInt32), (1541459225 : UInt32)], rfl⟩ : Vec UInt32 8)
noncomputable def pF (aQ : (List UInt32)) : (Vec UInt32 8 × Int) → Option ((Vec UInt32 8 × Int) ⊕ (Vec UInt32 8 × Int))
  | (h, aC) => if aC < 8 then ((aF h.l aC).bind fun bY => (aF (Vec.of 8 aQ).l aC).bind fun iy => (aF h.l aC).bind fun iR => (some (jy h aC (bY ^^^ iy))).bind fun v => some (.inl (v, aI (aC + 1)))) else (Option.map Sum.inr (some (h, (0 : Int))))
noncomputable def uG (block : List UInt8) : Option (Vec UInt32 8 × Int) :=
  (qU block (32 : Int)).bind fun r_ => if r_ ≠ 0 then (some ((Vec.rep 8 ((0 : UInt32) : UInt32)), r_)) else ((qY ((Vec.rep 8 (0 : UInt32)).l) block).bind fun aQ => (zt).bind fun bI => aX (pF aQ) (bI, (0 : Int)))
noncomputable def uH (k_ : Int) (block : List UInt8) : Option ((Vec UInt64 8 × List UInt8) ⊕ (Vec UInt32 8 × List UInt8)) :=
  if k_ = 1 then ((uF block).bind fun r_ => some (Sum.inl (r_.1, ([] : List UInt8)))) else ((uG block).bind fun aQ => some (Sum.inr (aQ.1, ([] : List UInt8))))
noncomputable def jA (k_ : Int) : Option Int :=
  if k_ = 1 then (some (128 : Int)) else (some (64 : Int))
noncomputable def mD (b : List UInt8) (n : Int) : Option (List UInt8) :=
  (need ((0 : Int) ≤ (0 : Int) ∧ ((0 : Int) : Int) ≤ n ∧ Int.toNat n * 1 ≤ 140737488355328)).bind fun u => (app (List.replicate (Int.toNat (0 : Int)) (0 : UInt8)) b 1).bind fun b1 => (UW b1 (aI (n - ((b.length : Nat) : Int))) (0 : UInt8) 1).bind fun b2 => some b2
noncomputable def o5 (um : UInt64) (vK : UInt64) (n : UInt64) : Option (UInt64 × UInt64 × Bool) :=
  (OB um n (0 : UInt64)).bind fun r_ => (OB vK (0 : UInt64) r_.2).bind fun aQ => some (r_.1, aQ.1, decide (aQ.2 = 1))
noncomputable def pG (b : List UInt8) : (Vec UInt64 16 × Int) → Option ((Vec UInt64 16 × Int) ⊕ (Vec UInt64 16 × Int))
  | (m_, aC) => if aC < 16 then ((mr b (aI (8 * aC))).bind fun r_ => (aF m_.l aC).bind fun bY => (some (jy m_ aC r_.1)).bind fun v => some (.inl (v, aI (aC + 1)))) else (Option.map Sum.inr (some (m_, (0 : Int))))
noncomputable def uI (b : List UInt8) : Option (Vec UInt64 16 × Int) :=
  if ((b.length : Nat) : Int) ≠ 128 then (some ((Vec.rep 16 (0 : UInt64)), (1 : Int))) else (aX (pG b) ((Vec.rep 16 (0 : UInt64)), (0 : Int)))
noncomputable def uJ (v4 : Vec UInt64 16) : Option (Vec UInt64 16) :=
  some v4
noncomputable def uK (node : Bool) (v2 : Vec UInt64 16) : Option (Vec UInt64 16) :=
  if node = true then ((aF v2.l (15 : Int)).bind fun lh => (aF v2.l (15 : Int)).bind fun qj => (some (jy v2 (15 : Int) (18446744073709551615 ^^^ lh))).bind fun v5 => uJ v5) else (uJ v2)
noncomputable def yN (h : Vec UInt64 8) (jB : UInt64) (jC : UInt64) (last : Bool) (node : Bool) : Option (Vec UInt64 16) :=
  (Ba ((Vec.rep 16 (0 : UInt64)).l) 0 (8 : Int)).bind fun b => (zq).bind fun r_ => (Ba ((D9 (Vec.rep 16 (0 : UInt64)) 0 b.length h.l).l) (8 : Int) ((16 : Nat) : Int)).bind fun b1 => (aF (D9 (D9 (Vec.rep 16 (0 : UInt64)) 0 b.length h.l) (Int.toNat (8 : Int)) b1.length r_.l).l (12 : Int)).bind fun aC => (aF (D9 (D9 (Vec.rep 16 (0 : UInt64)) 0 b.length h.l) (Int.toNat (8 : Int)) b1.length r_.l).l (12 : Int)).bind fun x_1 => (some (jy (D9 (D9 (Vec.rep 16 (0 : UInt64)) 0 b.length h.l) (Int.toNat (8 : Int)) b1.length r_.l) (12 : Int) (aC ^^^ jB))).bind fun v => (aF v.l (13 : Int)).bind fun bY => (aF v.l (13 : Int)).bind fun iy => (some (jy v (13 : Int) (bY ^^^ jC))).bind fun v1 => if last = true then ((aF v1.l (14 : Int)).bind fun iR => (aF v1.l (14 : Int)).bind fun kK => (some (jy v1 (14 : Int) (18446744073709551615 ^^^ iR))).bind fun v3 => uK node v3) else (uK node v1)
noncomputable def uM (round : Int) : Option (Vec Int 16) :=
  (aF (⟨[(⟨[(0 : Int), (1 : Int), (2 : Int), (3 : Int), (4 : Int), (5 : Int), (6 : Int), (7 : Int), (8 : Int), (9 : Int), (10 : Int), (11 : Int), (12 : Int), (13 : Int), (14 : Int), (15 : Int)], rfl⟩ : Vec Int 16), (⟨[(14 : Int), (10 : Int), (4 : Int), (8 : Int), (9 : Int), (15 : Int), (13 : Int), (6 : Int), (1 : Int), (12 : Int), (0 : Int), (2 : Int), (11 : Int), (7 : Int), (5 : Int), (3 : Int)], rfl⟩ : Vec Int 16), (⟨[(11 : Int), (8 : Int), (12 : Int), (0 : Int), (5 : Int), (2 : Int), (15 : Int), (13 : Int), (10 : Int), (14 : Int), (3 : Int), (6 : Int), (7 : Int), (1 : Int), (9 : Int), (4 : Int)], rfl⟩ : Vec Int 16), (⟨[(7 : Int), (9 : Int), (3 : Int), (1 : Int), (13 : Int), (12 : Int), (11 : Int), (14 : Int), (2 : Int), (6 : Int), (5 : Int), (10 : Int), (4 : Int), (0 : Int), (15 : Int), (8 : Int)], rfl⟩ : Vec Int 16), (⟨[(9 : Int), (0 : Int), (5 : Int), (7 : Int), (2 : Int), (4 : Int), (10 : Int), (15 : Int), (14 : Int), (1 : Int), (11 : Int), (12 : Int), (6 : Int), (8 : Int), (3 : Int), (13 : Int)], rfl⟩ : Vec Int 16), (⟨[(2 : Int), (12 : Int), (6 : Int), (10 : Int), (0 : Int), (11 : Int), (8 : Int), (3 : Int), (4 : Int), (13 : Int), (7 : Int), (5 : Int), (15 : Int), (14 : Int), (1 : Int), (9 : Int)], rfl⟩ : Vec Int 16), (⟨[(12 : Int), (5 : Int), (1 : Int), (15 : Int), (14 : Int), (13 : Int), (4 : Int), (10 : Int), (0 : Int), (7 : Int), (6 : Int), (3 : Int), (9 : Int), (2 : Int), (8 : Int), (11 : Int)], rfl⟩ : Vec Int 16), (⟨[(13 : Int), (11 : Int), (7 : Int), (14 : Int), (12 : Int), (1 : Int), (3 : Int), (9 : Int), (5 : Int), (0 : Int), (15 : Int), (4 : Int), (8 : Int), (6 : Int), (2 : Int), (10 : Int)], rfl⟩ : Vec Int 16), (⟨[(6 : Int), (15 : Int), (14 : Int), (9 : Int), (11 : Int), (3 : Int), (0 : Int), (8 : Int), (12 : Int), (2 : Int), (13 : Int), (7 : Int), (1 : Int), (4 : Int), (10 : Int), (5 : Int)], rfl⟩ : Vec Int 16), (⟨[(10 : Int), (2 : Int), (8 : Int), (4 : Int), (7 : Int), (6 : Int), (1 : Int), (5 : Int), (15 : Int), (11 : Int), (9 : Int), (14 : Int), (3 : Int), (12 : Int), (13 : Int), (0 : Int)], rfl⟩ : Vec Int 16)], rfl⟩ : Vec (Vec Int 16) 10).l (Int.tmod (aI ((Int.tmod round 10) + 10)) 10)).bind fun aC => some aC
noncomputable def vY  : Option (Vec (Vec Int 4) 8) :=
  some (⟨[(⟨[(0 : Int), (4 : Int), (8 : Int), (12 : Int)], rfl⟩ : Vec Int 4), (⟨[(1 : Int), (5 : Int), (9 : Int), (13 : Int)], rfl⟩ : Vec Int 4), (⟨[(2 : Int), (6 : Int), (10 : Int), (14 : Int)], rfl⟩ : Vec Int 4), (⟨[(3 : Int), (7 : Int), (11 : Int), (15 : Int)], rfl⟩ : Vec Int 4), (⟨[(0 : Int), (5 : Int), (10 : Int), (15 : Int)], rfl⟩ : Vec Int 4), (⟨[(1 : Int), (6 : Int), (11 : Int), (12 : Int)], rfl⟩ : Vec Int 4), (⟨[(2 : Int), (7 : Int), (8 : Int), (13 : Int)], rfl⟩ : Vec Int 4), (⟨[(3 : Int), (4 : Int), (9 : Int), (14 : Int)], rfl⟩ : Vec Int 4)], rfl⟩ : Vec (Vec Int 4) 8)
noncomputable def fC (x_ : UInt64) (k_ : Int) : Option UInt64 :=
  some ((o_ x_ (((UInt64.ofInt k_) &&& 63).toNat)) ||| (jR x_ (((64 : UInt64) - ((UInt64.ofInt k_) &&& 63)).toNat)))
noncomputable def wH (v : Vec UInt64 16) (p : Vec Int 4) (x_ : UInt64) (y_ : UInt64) : Option (Vec UInt64 16) :=
  (aF p.l (0 : Int)).bind fun bY => (aF p.l (1 : Int)).bind fun iy => (aF p.l (2 : Int)).bind fun iR => (aF p.l (3 : Int)).bind fun kK => (aF v.l bY).bind fun lh => (aF v.l iy).bind fun qj => (aF v.l bY).bind fun CO => (some (jy v bY (lh + (qj + x_)))).bind fun v1 => (aF v1.l kK).bind fun zK => (aF v1.l bY).bind fun qZ => (fC (zK ^^^ qZ) (-32 : Int)).bind fun r_ => (aF v1.l kK).bind fun fZ => (some (jy v1 kK r_)).bind fun v2 => (aF v2.l iR).bind fun Ea => (aF v2.l kK).bind fun H5 => (aF v2.l iR).bind fun J8 => (some (jy v2 iR (Ea + H5))).bind fun v3 => (aF v3.l iy).bind fun Dp => (aF v3.l iR).bind fun J9 => (fC (Dp ^^^ J9) (-24 : Int)).bind fun aQ => (aF v3.l iy).bind fun MQ => (some (jy v3 iy aQ)).bind fun v4 => (aF v4.l bY).bind fun Dq => (aF v4.l iy).bind fun Fe => (aF v4.l bY).bind fun Jc => (some (jy v4 bY (Dq + (Fe + y_)))).bind fun v5 => (aF v5.l kK).bind fun Dt => (aF v5.l bY).bind fun J_ => (fC (Dt ^^^ J_) (-16 : Int)).bind fun bI => (aF v5.l kK).bind fun MR => (some (jy v5 kK bI)).bind fun v6 => (aF v6.l iR).bind fun Ec => (aF v6.l kK).bind fun H6 => (aF v6.l iR).bind fun ZV => (some (jy v6 iR (Ec + H6))).bind fun v7 => (aF v7.l iy).bind fun Vm => (aF v7.l iR).bind fun XO => (fC (Vm ^^^ XO) (-63 : Int)).bind fun dN => (aF v7.l iy).bind fun x_29 => (some (jy v7 iy dN)).bind fun v8 => some v8
noncomputable def uN (m_ : Vec UInt64 16) (r_ : (Vec Int 16)) (aQ : (Vec (Vec Int 4) 8)) : (Vec UInt64 16 × Int) → Option ((Vec UInt64 16 × Int) ⊕ (Vec UInt64 16 × Vec UInt64 16))
  | (v1, aC) => if aC < 8 then ((aF aQ.l aC).bind fun bY => (aF r_.l (aI (2 * aC))).bind fun iy => (aF m_.l iy).bind fun iR => (aF r_.l (aI ((aI (2 * aC)) + 1))).bind fun kK => (aF m_.l kK).bind fun lh => (wH v1 bY iR lh).bind fun bI => some (.inl (bI, aI (aC + 1)))) else (Option.map Sum.inr (some (v1, m_)))
noncomputable def wI (v : Vec UInt64 16) (m_ : Vec UInt64 16) (round : Int) : Option (Vec UInt64 16 × Vec UInt64 16) :=
  (uM round).bind fun r_ => (vY).bind fun aQ => aX (uN m_ r_ aQ) (v, (0 : Int))
noncomputable def wJ (v : Vec UInt64 16) : (Vec UInt64 8 × Int) → Option ((Vec UInt64 8 × Int) ⊕ (Vec UInt64 8))
  | (h1, x_1) => if x_1 < 8 then ((aF h1.l x_1).bind fun bY => (aF v.l x_1).bind fun iy => (aF v.l (aI (x_1 + 8))).bind fun iR => (aF h1.l x_1).bind fun kK => (some (jy h1 x_1 (bY ^^^ (iy ^^^ iR)))).bind fun v1 => some (.inl (v1, aI (x_1 + 1)))) else (Option.map Sum.inr (some h1))
noncomputable def wK (h : Vec UInt64 8) : (Vec UInt64 16 × Vec UInt64 16 × Int) → Option ((Vec UInt64 16 × Vec UInt64 16 × Int) ⊕ (Vec UInt64 8))
  | (vX, v, aC) => if aC < 12 then ((wI v vX aC).bind fun aQ => some (.inl (aQ.2, aQ.1, aI (aC + 1)))) else (Option.map Sum.inr (aX (wJ v) (h, (0 : Int))))
noncomputable def BA (h : Vec UInt64 8) (m_ : Vec UInt64 16) (jB : UInt64) (jC : UInt64) (last : Bool) (node : Bool) : Option (Vec UInt64 8) :=
  (yN h jB jC last node).bind fun r_ => aX (wK h) (m_, r_, (0 : Int))
noncomputable def pV (h : Vec UInt64 8) (b : List UInt8) (um : UInt64) (vK : UInt64) (last : Bool) (node : Bool) : Option (Vec UInt64 8) :=
  (uI b).bind fun r_ => (BA h r_.1 um vK last node).bind fun aQ => some aQ
noncomputable def gq (aG : Int) (b1 : List UInt8) (CO : Vec UInt64 8) (zK : UInt64) (qZ : UInt64) (fZ : List UInt8) : Option ((Vec UInt64 8 × UInt64 × UInt64 × List UInt8 × List UInt8) ⊕ (Vec UInt64 8 × UInt64 × UInt64 × List UInt8 × Int)) :=
  (Ba b1 0 (if aI (aG - ((fZ.length : Nat) : Int)) < ((b1.length : Nat) : Int) then aI (aG - ((fZ.length : Nat) : Int)) else ((b1.length : Nat) : Int))).bind fun b3 => (app fZ b3 1).bind fun b4 => (Ba b1 (if aI (aG - ((fZ.length : Nat) : Int)) < ((b1.length : Nat) : Int) then aI (aG - ((fZ.length : Nat) : Int)) else ((b1.length : Nat) : Int)) ((b1.length : Nat) : Int)).bind fun b5 => some (.inl (CO, zK, qZ, b4, b5))
noncomputable def jO (aG : Int) : (Vec UInt64 8 × UInt64 × UInt64 × List UInt8 × List UInt8) → Option ((Vec UInt64 8 × UInt64 × UInt64 × List UInt8 × List UInt8) ⊕ (Vec UInt64 8 × UInt64 × UInt64 × List UInt8 × Int))
  | (aC, kK, lh, qj, b1) => if 0 < ((b1.length : Nat) : Int) then (if ((qj.length : Nat) : Int) = aG then ((o5 kK lh (UInt64.ofInt aG)).bind fun r_ => (pV aC qj r_.1 r_.2.1 false false).bind fun aQ => (Ba qj 0 (0 : Int)).bind fun b2 => gq aG b1 aQ r_.1 r_.2.1 b2) else (gq aG b1 aC kK lh qj)) else (Option.map Sum.inr (some (aC, kK, lh, qj, aG)))
noncomputable def iC (zZ : Vec UInt64 8) (bK : UInt64) (bM : UInt64) (dO : List UInt8) (aG : Int) (b : List UInt8) : Option (Vec UInt64 8 × UInt64 × UInt64 × List UInt8 × Int) :=
  aX (jO aG) (zZ, bK, bM, dO, b)
noncomputable def uO (b : List UInt8) : Option (Vec UInt32 16 × Int) :=
  (qU b (64 : Int)).bind fun r_ => if r_ ≠ 0 then (some ((Vec.rep 16 (0 : UInt32)), r_)) else ((qY ((Vec.rep 16 (0 : UInt32)).l) b).bind fun aQ => some ((Vec.of 16 aQ), (0 : Int)))
noncomputable def rY (v4 : Vec UInt32 16) : Option (Vec UInt32 16) :=
  some v4
noncomputable def rZ (node : Bool) (v2 : Vec UInt32 16) : Option (Vec UInt32 16) :=
  if node = true then ((aF v2.l (15 : Int)).bind fun lh => (aF v2.l (15 : Int)).bind fun qj => (some (jy v2 (15 : Int) (4294967295 ^^^ lh))).bind fun v5 => rY v5) else (rY v2)
noncomputable def xM (h : Vec UInt32 8) (count : UInt64) (last : Bool) (node : Bool) : Option (Vec UInt32 16) :=
  (zt).bind fun r_ => (Ba ((Vec.rep 16 (0 : UInt32)).l) 0 (8 : Int)).bind fun b => (Ba ((D9 (Vec.rep 16 (0 : UInt32)) 0 b.length h.l).l) (8 : Int) ((16 : Nat) : Int)).bind fun b1 => (aF (D9 (D9 (Vec.rep 16 (0 : UInt32)) 0 b.length h.l) (Int.toNat (8 : Int)) b1.length r_.l).l (12 : Int)).bind fun aC => (aF (D9 (D9 (Vec.rep 16 (0 : UInt32)) 0 b.length h.l) (Int.toNat (8 : Int)) b1.length r_.l).l (12 : Int)).bind fun x_1 => (some (jy (D9 (D9 (Vec.rep 16 (0 : UInt32)) 0 b.length h.l) (Int.toNat (8 : Int)) b1.length r_.l) (12 : Int) (aC ^^^ (UInt32.ofNat count.toNat)))).bind fun v => (aF v.l (13 : Int)).bind fun bY => (aF v.l (13 : Int)).bind fun iy => (some (jy v (13 : Int) (bY ^^^ (UInt32.ofNat (jR count ((32 : UInt64).toNat)).toNat)))).bind fun v1 => if last = true then ((aF v1.l (14 : Int)).bind fun iR => (aF v1.l (14 : Int)).bind fun kK => (some (jy v1 (14 : Int) (4294967295 ^^^ iR))).bind fun v3 => rZ node v3) else (rZ node v1)
noncomputable def vZ  : Option (Vec (Vec Int 4) 8) :=
  some (⟨[(⟨[(0 : Int), (4 : Int), (8 : Int), (12 : Int)], rfl⟩ : Vec Int 4), (⟨[(1 : Int), (5 : Int), (9 : Int), (13 : Int)], rfl⟩ : Vec Int 4), (⟨[(2 : Int), (6 : Int), (10 : Int), (14 : Int)], rfl⟩ : Vec Int 4), (⟨[(3 : Int), (7 : Int), (11 : Int), (15 : Int)], rfl⟩ : Vec Int 4), (⟨[(0 : Int), (5 : Int), (10 : Int), (15 : Int)], rfl⟩ : Vec Int 4), (⟨[(1 : Int), (6 : Int), (11 : Int), (12 : Int)], rfl⟩ : Vec Int 4), (⟨[(2 : Int), (7 : Int), (8 : Int), (13 : Int)], rfl⟩ : Vec Int 4), (⟨[(3 : Int), (4 : Int), (9 : Int), (14 : Int)], rfl⟩ : Vec Int 4)], rfl⟩ : Vec (Vec Int 4) 8)
noncomputable def fD (x_ : UInt32) (k_ : Int) : Option UInt32 :=
  some ((xC x_ (((UInt64.ofInt k_) &&& 31).toNat)) ||| (iH x_ (((32 : UInt64) - ((UInt64.ofInt k_) &&& 31)).toNat)))
noncomputable def xZ (v : Vec UInt32 16) (a_ : Int) (b : Int) (c : Int) (d : Int) (x_ : UInt32) (y_ : UInt32) : Option (Vec UInt32 16) :=
  (aF v.l a_).bind fun bY => (aF v.l b).bind fun iy => (aF v.l a_).bind fun iR => (some (jy v a_ (bY + (iy + x_)))).bind fun v1 => (aF v1.l d).bind fun kK => (aF v1.l a_).bind fun lh => (fD (kK ^^^ lh) (-16 : Int)).bind fun r_ => (aF v1.l d).bind fun qj => (some (jy v1 d r_)).bind fun v2 => (aF v2.l c).bind fun CO => (aF v2.l d).bind fun zK => (aF v2.l c).bind fun qZ => (some (jy v2 c (CO + zK))).bind fun v3 => (aF v3.l b).bind fun fZ => (aF v3.l c).bind fun Ea => (fD (fZ ^^^ Ea) (-12 : Int)).bind fun aQ => (aF v3.l b).bind fun H5 => (some (jy v3 b aQ)).bind fun v4 => (aF v4.l a_).bind fun J8 => (aF v4.l b).bind fun Dp => (aF v4.l a_).bind fun J9 => (some (jy v4 a_ (J8 + (Dp + y_)))).bind fun v5 => (aF v5.l d).bind fun MQ => (aF v5.l a_).bind fun Dq => (fD (MQ ^^^ Dq) (-8 : Int)).bind fun bI => (aF v5.l d).bind fun Fe => (some (jy v5 d bI)).bind fun v6 => (aF v6.l c).bind fun Jc => (aF v6.l d).bind fun Dt => (aF v6.l c).bind fun J_ => (some (jy v6 c (Jc + Dt))).bind fun v7 => (aF v7.l b).bind fun MR => (aF v7.l c).bind fun Ec => (fD (MR ^^^ Ec) (-7 : Int)).bind fun dN => (aF v7.l b).bind fun H6 => (some (jy v7 b dN)).bind fun v8 => some v8
noncomputable def su (m_ : Vec UInt32 16) (aQ : (Vec Int 16)) (bI : (Vec (Vec Int 4) 8)) : (Vec UInt32 16 × Int) → Option ((Vec UInt32 16 × Int) ⊕ (Vec UInt32 16 × Vec UInt32 16))
  | (v1, aC) => if aC < 8 then ((aF bI.l aC).bind fun bY => (aF bY.l (0 : Int)).bind fun iy => (aF bY.l (1 : Int)).bind fun iR => (aF bY.l (2 : Int)).bind fun kK => (aF bY.l (3 : Int)).bind fun lh => (aF aQ.l (aI (2 * aC))).bind fun qj => (aF m_.l qj).bind fun CO => (aF aQ.l (aI ((aI (2 * aC)) + 1))).bind fun zK => (aF m_.l zK).bind fun qZ => (xZ v1 iy iR kK lh CO qZ).bind fun dN => some (.inl (dN, aI (aC + 1)))) else (Option.map Sum.inr (some (v1, m_)))
noncomputable def uP (v : Vec UInt32 16) (m_ : Vec UInt32 16) (r_ : Int) : Option (Vec UInt32 16 × Vec UInt32 16) :=
  (uM r_).bind fun aQ => (vZ).bind fun bI => aX (su m_ aQ bI) (v, (0 : Int))
noncomputable def v_ (v : Vec UInt32 16) : (Vec UInt32 8 × Int) → Option ((Vec UInt32 8 × Int) ⊕ (Vec UInt32 8))
  | (h1, aC) => if aC < 8 then ((aF h1.l aC).bind fun x_1 => (aF v.l aC).bind fun bY => (aF v.l (aI (aC + 8))).bind fun iy => (aF h1.l aC).bind fun iR => (some (jy h1 aC (x_1 ^^^ (bY ^^^ iy)))).bind fun v1 => some (.inl (v1, aI (aC + 1)))) else (Option.map Sum.inr (some h1))
noncomputable def x8 (h : Vec UInt32 8) (v : Vec UInt32 16) : Option (Vec UInt32 8) :=
  aX (v_ v) (h, (0 : Int))
noncomputable def wL (h : Vec UInt32 8) : (Vec UInt32 16 × Vec UInt32 16 × Int) → Option ((Vec UInt32 16 × Vec UInt32 16 × Int) ⊕ (Vec UInt32 8))
  | (vX, v, aC) => if aC < 10 then ((uP v vX aC).bind fun aQ => some (.inl (aQ.2, aQ.1, aI (aC + 1)))) else (Option.map Sum.inr ((x8 h v).bind fun bI => some bI))
noncomputable def BB (h : Vec UInt32 8) (m_ : Vec UInt32 16) (count : UInt64) (last : Bool) (node : Bool) : Option (Vec UInt32 8) :=
  (xM h count last node).bind fun r_ => aX (wL h) (m_, r_, (0 : Int))
noncomputable def nI (h : Vec UInt32 8) (b : List UInt8) (um : UInt64) (vK : UInt64) (last : Bool) (node : Bool) : Option (Vec UInt32 8) :=
  (uO b).bind fun r_ => (BB h r_.1 um last node).bind fun aQ => some aQ
noncomputable def gu (aG : Int) (b1 : List UInt8) (CO : Vec UInt32 8) (zK : UInt64) (qZ : UInt64) (fZ : List UInt8) : Option ((Vec UInt32 8 × UInt64 × UInt64 × List UInt8 × List UInt8) ⊕ (Vec UInt32 8 × UInt64 × UInt64 × List UInt8 × Int)) :=
  (Ba b1 0 (if aI (aG - ((fZ.length : Nat) : Int)) < ((b1.length : Nat) : Int) then aI (aG - ((fZ.length : Nat) : Int)) else ((b1.length : Nat) : Int))).bind fun b3 => (app fZ b3 1).bind fun b4 => (Ba b1 (if aI (aG - ((fZ.length : Nat) : Int)) < ((b1.length : Nat) : Int) then aI (aG - ((fZ.length : Nat) : Int)) else ((b1.length : Nat) : Int)) ((b1.length : Nat) : Int)).bind fun b5 => some (.inl (CO, zK, qZ, b4, b5))
noncomputable def jP (aG : Int) : (Vec UInt32 8 × UInt64 × UInt64 × List UInt8 × List UInt8) → Option ((Vec UInt32 8 × UInt64 × UInt64 × List UInt8 × List UInt8) ⊕ (Vec UInt32 8 × UInt64 × UInt64 × List UInt8 × Int))
  | (aC, kK, lh, qj, b1) => if 0 < ((b1.length : Nat) : Int) then (if ((qj.length : Nat) : Int) = aG then ((o5 kK lh (UInt64.ofInt aG)).bind fun r_ => (nI aC qj r_.1 r_.2.1 false false).bind fun aQ => (Ba qj 0 (0 : Int)).bind fun b2 => gu aG b1 aQ r_.1 r_.2.1 b2) else (gu aG b1 aC kK lh qj)) else (Option.map Sum.inr (some (aC, kK, lh, qj, aG)))
noncomputable def iD (zZ : Vec UInt32 8) (bK : UInt64) (bM : UInt64) (dO : List UInt8) (aG : Int) (b : List UInt8) : Option (Vec UInt32 8 × UInt64 × UInt64 × List UInt8 × Int) :=
  aX (jP aG) (zZ, bK, bM, dO, b)
noncomputable def jW (iP : Int) (gB : Int) (dh : List UInt8) (fQ : List UInt8) (mX : Bool) (gG : UInt64) : Option ((Int × Int × List UInt8 × List UInt8 × Vec UInt64 8 × UInt64 × UInt64 × List UInt8 × Int) ⊕ (Int × Int × List UInt8 × List UInt8 × Vec UInt32 8 × UInt64 × UInt64 × List UInt8 × Int)) :=
  (uH iP dh).bind fun r_ => (Sum.elim (fun aQ => if 0 < ((fQ.length : Nat) : Int) then ((jA iP).bind fun dN => (mD fQ dN).bind fun ja => (iC aQ.1 (0 : UInt64) (0 : UInt64) aQ.2 (128 : Int) ja).bind fun iO => some (Sum.inl (iP, gB, dh, fQ, iO.1, iO.2.1, iO.2.2.1, iO.2.2.2.1, iO.2.2.2.2))) else (some (Sum.inl (iP, gB, dh, fQ, aQ.1, (0 : UInt64), (0 : UInt64), aQ.2, (128 : Int))))) (fun bI => if 0 < ((fQ.length : Nat) : Int) then ((jA iP).bind fun qw => (mD fQ qw).bind fun nJ => (iD bI.1 (0 : UInt64) (0 : UInt64) bI.2 (64 : Int) nJ).bind fun ug => some (Sum.inr (iP, gB, dh, fQ, ug.1, ug.2.1, ug.2.2.1, ug.2.2.2.1, ug.2.2.2.2))) else (some (Sum.inr (iP, gB, dh, fQ, bI.1, (0 : UInt64), (0 : UInt64), bI.2, (64 : Int)))))) r_
noncomputable def wM (k_ : Int) (block : List UInt8) (digest : Int) (key : List UInt8) : Option ((Int × Int × List UInt8 × List UInt8 × Vec UInt64 8 × UInt64 × UInt64 × List UInt8 × Int) ⊕ (Int × Int × List UInt8 × List UInt8 × Vec UInt32 8 × UInt64 × UInt64 × List UInt8 × Int)) :=
  (app ([] : List UInt8) block 1).bind fun b => (app ([] : List UInt8) key 1).bind fun b1 => (jW k_ digest b b1 false (0 : UInt64)).bind fun r_ => (Sum.elim (fun aQ => some (Sum.inl (aQ.1, aQ.2.1, aQ.2.2.1, aQ.2.2.2.1, aQ.2.2.2.2.1, aQ.2.2.2.2.2.1, aQ.2.2.2.2.2.2.1, aQ.2.2.2.2.2.2.2.1, aQ.2.2.2.2.2.2.2.2))) (fun bI => some (Sum.inr (bI.1, bI.2.1, bI.2.2.1, bI.2.2.2.1, bI.2.2.2.2.1, bI.2.2.2.2.2.1, bI.2.2.2.2.2.2.1, bI.2.2.2.2.2.2.2.1, bI.2.2.2.2.2.2.2.2)))) r_
noncomputable def x9 (k_ : Int) (aP : Int) (dA : Int) (aT : Int) (bn : Int) (cu : UInt32) (aH : UInt64) (bF : UInt32) (aB : Int) (bf : Int) (bu : List UInt8) (aA : List UInt8) (key : List UInt8) : Option (Int ⊕ (Int × Int × List UInt8 × List UInt8 × Vec UInt64 8 × UInt64 × UInt64 × List UInt8 × Int) ⊕ (Int × Int × List UInt8 × List UInt8 × Vec UInt32 8 × UInt64 × UInt64 × List UInt8 × Int)) :=
  (lH k_ aP dA aT bn cu aH bF aB bf bu aA).bind fun r_ => if r_.2 ≠ 0 then (some (Sum.inl r_.2)) else (if ((decide (((key.length : Nat) : Int) ≠ 0)) && (decide (((key.length : Nat) : Int) ≠ dA))) = true then (some (Sum.inl (8 : Int))) else ((wM k_ r_.1 aP key).bind fun aQ => (Sum.elim (fun bI => some (Sum.inr (Sum.inl (bI.1, bI.2.1, bI.2.2.1, bI.2.2.2.1, bI.2.2.2.2.1, bI.2.2.2.2.2.1, bI.2.2.2.2.2.2.1, bI.2.2.2.2.2.2.2.1, bI.2.2.2.2.2.2.2.2)))) (fun dN => some (Sum.inr (Sum.inr (dN.1, dN.2.1, dN.2.2.1, dN.2.2.2.1, dN.2.2.2.2.1, dN.2.2.2.2.2.1, dN.2.2.2.2.2.2.1, dN.2.2.2.2.2.2.2.1, dN.2.2.2.2.2.2.2.2))))) aQ))
noncomputable def rf (iP : Int) (gB : Int) (dh : List UInt8) (fQ : List UInt8) (mX : Bool) (gG : UInt64) (uQ : Vec UInt64 8) (dZ : UInt64) (ed : UInt64) (jD : List UInt8) (jd : Int) : Option (Vec UInt64 8 × UInt64 × UInt64 × List UInt8 × Int × Int × Int × List UInt8 × List UInt8 × Bool × UInt64) :=
  some (uQ, dZ, ed, jD, jd, iP, gB, dh, fQ, mX, gG)
noncomputable def qf (w_ : UInt64) : (List UInt8 × Int) → Option ((List UInt8 × Int) ⊕ (List UInt8))
  | (b, aC) => if aC < 8 then ((need (0 ≤ aI (8 * aC))).bind fun u => (aF b aC).bind fun x_1 => some (.inl (b.set (Int.toNat aC) (UInt8.ofNat (jR w_ (Int.toNat (aI (8 * aC)))).toNat), aI (aC + 1)))) else (Option.map Sum.inr (some b))
noncomputable def qy (w_ : UInt64) : Option (List UInt8) :=
  aX (qf w_) (List.replicate (Int.toNat (8 : Int)) (0 : UInt8), (0 : Int))
noncomputable def sD (h : Vec UInt64 8) : (List UInt8 × Int) → Option ((List UInt8 × Int) ⊕ (List UInt8))
  | (b, aC) => if aC < 8 then ((aF h.l aC).bind fun x_1 => (qy x_1).bind fun r_ => (app b r_ 1).bind fun b1 => some (.inl (b1, aI (aC + 1)))) else (Option.map Sum.inr (some b))
noncomputable def uS (h : Vec UInt64 8) : Option (List UInt8) :=
  aX (sD h) (List.replicate (Int.toNat (0 : Int)) (0 : UInt8), (0 : Int))
noncomputable def kL (zZ : Vec UInt64 8) (bK : UInt64) (bM : UInt64) (dO : List UInt8) (aG : Int) (node : Bool) (c0 : UInt64) (c2 : UInt64) : Option (List UInt8 × Vec UInt64 8 × UInt64 × UInt64 × List UInt8 × Int) :=
  (mD dO aG).bind fun aQ => (pV zZ aQ c0 c2 true node).bind fun bI => (uS bI).bind fun dN => some (dN, zZ, bK, bM, dO, aG)
noncomputable def jX (zZ : Vec UInt64 8) (bK : UInt64) (bM : UInt64) (dO : List UInt8) (aG : Int) (node : Bool) : Option (List UInt8 × Vec UInt64 8 × UInt64 × UInt64 × List UInt8 × Int) :=
  (o5 bK bM (UInt64.ofInt ((dO.length : Nat) : Int))).bind fun r_ => kL zZ bK bM dO aG node r_.1 r_.2.1
noncomputable def pI (iP : Int) (gB : Int) (dh : List UInt8) (fQ : List UInt8) (mX : Bool) (gG : UInt64) (uQ : Vec UInt64 8) (dZ : UInt64) (ed : UInt64) (jD : List UInt8) (jd : Int) (most : Int) : Option (List UInt8 × Int × Vec UInt64 8 × UInt64 × UInt64 × List UInt8 × Int × Int × Int × List UInt8 × List UInt8 × Bool × UInt64) :=
  (rf iP gB dh fQ mX gG uQ dZ ed jD jd).bind fun r_ => if most < 1 then (some (([] : List UInt8), (1 : Int), r_.1, r_.2.1, r_.2.2.1, r_.2.2.2.1, r_.2.2.2.2.1, r_.2.2.2.2.2.1, r_.2.2.2.2.2.2.1, r_.2.2.2.2.2.2.2.1, r_.2.2.2.2.2.2.2.2.1, r_.2.2.2.2.2.2.2.2.2.1, r_.2.2.2.2.2.2.2.2.2.2)) else ((jA r_.2.2.2.2.2.1).bind fun aQ => if (aI (Int.tdiv aQ 2)) < most then (some (([] : List UInt8), (1 : Int), r_.1, r_.2.1, r_.2.2.1, r_.2.2.2.1, r_.2.2.2.2.1, r_.2.2.2.2.2.1, r_.2.2.2.2.2.2.1, r_.2.2.2.2.2.2.2.1, r_.2.2.2.2.2.2.2.2.1, r_.2.2.2.2.2.2.2.2.2.1, r_.2.2.2.2.2.2.2.2.2.2)) else ((jX r_.1 r_.2.1 r_.2.2.1 r_.2.2.2.1 r_.2.2.2.2.1 r_.2.2.2.2.2.2.2.2.2.1).bind fun bI => (Ba bI.1 0 most).bind fun b => (need (most ≤ most ∧ most ≤ ((bI.1.length : Nat) : Int))).bind fun u => some (b, (0 : Int), bI.2.1, bI.2.2.1, bI.2.2.2.1, bI.2.2.2.2.1, bI.2.2.2.2.2, r_.2.2.2.2.2.1, r_.2.2.2.2.2.2.1, r_.2.2.2.2.2.2.2.1, r_.2.2.2.2.2.2.2.2.1, r_.2.2.2.2.2.2.2.2.2.1, r_.2.2.2.2.2.2.2.2.2.2)))
noncomputable def ou (iP : Int) (gB : Int) (dh : List UInt8) (fQ : List UInt8) (mX : Bool) (gG : UInt64) (uQ : Vec UInt32 8) (dZ : UInt64) (ed : UInt64) (jD : List UInt8) (jd : Int) : Option (Vec UInt32 8 × UInt64 × UInt64 × List UInt8 × Int × Int × Int × List UInt8 × List UInt8 × Bool × UInt64) :=
  some (uQ, dZ, ed, jD, jd, iP, gB, dh, fQ, mX, gG)
noncomputable def sF (h : Vec UInt32 8) : (List UInt8 × Int) → Option ((List UInt8 × Int) ⊕ (List UInt8))
  | (b, aC) => if aC < 8 then ((aF h.l aC).bind fun x_1 => (app b ([UInt8.ofNat x_1.toNat, UInt8.ofNat (iH x_1 ((8 : UInt64).toNat)).toNat, UInt8.ofNat (iH x_1 ((16 : UInt64).toNat)).toNat, UInt8.ofNat (iH x_1 ((24 : UInt64).toNat)).toNat] : List UInt8) 1).bind fun b1 => some (.inl (b1, aI (aC + 1)))) else (Option.map Sum.inr (some b))
noncomputable def uT (h : Vec UInt32 8) : Option (List UInt8) :=
  aX (sF h) (List.replicate (Int.toNat (0 : Int)) (0 : UInt8), (0 : Int))
noncomputable def kM (zZ : Vec UInt32 8) (bK : UInt64) (bM : UInt64) (dO : List UInt8) (aG : Int) (node : Bool) (c0 : UInt64) (c2 : UInt64) : Option (List UInt8 × Vec UInt32 8 × UInt64 × UInt64 × List UInt8 × Int) :=
  (mD dO aG).bind fun aQ => (nI zZ aQ c0 c2 true node).bind fun bI => (uT bI).bind fun dN => some (dN, zZ, bK, bM, dO, aG)
noncomputable def jY (zZ : Vec UInt32 8) (bK : UInt64) (bM : UInt64) (dO : List UInt8) (aG : Int) (node : Bool) : Option (List UInt8 × Vec UInt32 8 × UInt64 × UInt64 × List UInt8 × Int) :=
  (o5 bK bM (UInt64.ofInt ((dO.length : Nat) : Int))).bind fun r_ => kM zZ bK bM dO aG node r_.1 r_.2.1
noncomputable def mY (iP : Int) (gB : Int) (dh : List UInt8) (fQ : List UInt8) (mX : Bool) (gG : UInt64) (uQ : Vec UInt32 8) (dZ : UInt64) (ed : UInt64) (jD : List UInt8) (jd : Int) (most : Int) : Option (List UInt8 × Int × Vec UInt32 8 × UInt64 × UInt64 × List UInt8 × Int × Int × Int × List UInt8 × List UInt8 × Bool × UInt64) :=
  (ou iP gB dh fQ mX gG uQ dZ ed jD jd).bind fun r_ => if most < 1 then (some (([] : List UInt8), (1 : Int), r_.1, r_.2.1, r_.2.2.1, r_.2.2.2.1, r_.2.2.2.2.1, r_.2.2.2.2.2.1, r_.2.2.2.2.2.2.1, r_.2.2.2.2.2.2.2.1, r_.2.2.2.2.2.2.2.2.1, r_.2.2.2.2.2.2.2.2.2.1, r_.2.2.2.2.2.2.2.2.2.2)) else ((jA r_.2.2.2.2.2.1).bind fun aQ => if (aI (Int.tdiv aQ 2)) < most then (some (([] : List UInt8), (1 : Int), r_.1, r_.2.1, r_.2.2.1, r_.2.2.2.1, r_.2.2.2.2.1, r_.2.2.2.2.2.1, r_.2.2.2.2.2.2.1, r_.2.2.2.2.2.2.2.1, r_.2.2.2.2.2.2.2.2.1, r_.2.2.2.2.2.2.2.2.2.1, r_.2.2.2.2.2.2.2.2.2.2)) else ((jY r_.1 r_.2.1 r_.2.2.1 r_.2.2.2.1 r_.2.2.2.2.1 r_.2.2.2.2.2.2.2.2.2.1).bind fun bI => (Ba bI.1 0 most).bind fun b => (need (most ≤ most ∧ most ≤ ((bI.1.length : Nat) : Int))).bind fun u => some (b, (0 : Int), bI.2.1, bI.2.2.1, bI.2.2.2.1, bI.2.2.2.2.1, bI.2.2.2.2.2, r_.2.2.2.2.2.1, r_.2.2.2.2.2.2.1, r_.2.2.2.2.2.2.2.1, r_.2.2.2.2.2.2.2.2.1, r_.2.2.2.2.2.2.2.2.2.1, r_.2.2.2.2.2.2.2.2.2.2)))
noncomputable def lI (k_ : Int) (aP : Int) (dA : Int) (aT : Int) (bn : Int) (cu : UInt32) (aH : UInt64) (bF : UInt32) (aB : Int) (bf : Int) (bu : List UInt8) (aA : List UInt8) (key : List UInt8) (last : Bool) (out : Int) (data : List UInt8) : Option (List UInt8 × Int) :=
  (x9 k_ aP dA aT bn cu aH bF aB bf bu aA key).bind fun r_ => (Sum.elim (fun aQ => if aQ ≠ 0 then (some (([] : List UInt8), aQ)) else none) (Sum.elim (fun bI => if 0 ≠ 0 then (some (([] : List UInt8), (0 : Int))) else ((iC bI.2.2.2.2.1 bI.2.2.2.2.2.1 bI.2.2.2.2.2.2.1 bI.2.2.2.2.2.2.2.1 bI.2.2.2.2.2.2.2.2 data).bind fun ja => (pI bI.1 bI.2.1 bI.2.2.1 bI.2.2.2.1 last (0 : UInt64) ja.1 ja.2.1 ja.2.2.1 ja.2.2.2.1 ja.2.2.2.2 out).bind fun iO => some (iO.1, iO.2.1))) (fun dN => if 0 ≠ 0 then (some (([] : List UInt8), (0 : Int))) else ((iD dN.2.2.2.2.1 dN.2.2.2.2.2.1 dN.2.2.2.2.2.2.1 dN.2.2.2.2.2.2.2.1 dN.2.2.2.2.2.2.2.2 data).bind fun qw => (mY dN.1 dN.2.1 dN.2.2.1 dN.2.2.2.1 last (0 : UInt64) qw.1 qw.2.1 qw.2.2.1 qw.2.2.2.1 qw.2.2.2.2 out).bind fun nJ => some (nJ.1, nJ.2.1))))) r_
noncomputable def o6 (kind : Int) : Option Int :=
  if kind = 1 then (some (64 : Int)) else (if kind = 2 then (some (32 : Int)) else (some (0 : Int)))
noncomputable def iT (kind : Int) (aP : Int) (dA : Int) (aT : Int) (bn : Int) (cu : UInt32) (aH : UInt64) (bF : UInt32) (aB : Int) (bf : Int) (bu : List UInt8) (aA : List UInt8) : Option Int :=
  (o6 kind).bind fun r_ => if r_ = 0 then (some (1 : Int)) else (if ((decide (aP < 1)) || (decide (r_ < aP))) = true then (some (20 : Int)) else (if ((decide (dA < 0)) || (decide (r_ < dA))) = true then (some (8 : Int)) else (if ((decide (aT < 0)) || (decide (255 < aT))) = true then (some (21 : Int)) else (if (((decide (bn < 0)) || (decide (255 < bn))) || ((decide (bn = 0)) && (decide (bF = 0)))) = true then (some (22 : Int)) else (if (((decide (bF ≠ 0)) && (decide ((4294967295 : UInt64) < aH))) || (((decide (bF = 0)) && (decide (kind = 2))) && (decide ((281474976710655 : UInt64) < aH)))) = true then (some (23 : Int)) else (if ((decide (kind = 2)) && (decide ((65535 : UInt32) < bF))) = true then (some (24 : Int)) else (if ((decide (aB < 0)) || (decide (255 < aB))) = true then (some (25 : Int)) else (if ((decide (bf < 0)) || (decide (r_ < bf))) = true then (some (26 : Int)) else (if (aI (Int.tdiv r_ 4)) < ((bu.length : Nat) : Int) then (some (27 : Int)) else (if (aI (Int.tdiv r_ 4)) < ((aA.length : Nat) : Int) then (some (28 : Int)) else (some (0 : Int))))))))))))
noncomputable def wO (kind : Int) : Option Int :=
  if kind = 1 then (some (128 : Int)) else (some (64 : Int))
noncomputable def BC (i : Int) (b1 : List UInt8) : Option ((List UInt8 × Int) ⊕ (List UInt8)) :=
  some (.inl (b1, aI (i + 1)))
noncomputable def yc (b : List UInt8) (i : Int) (c2 : UInt8) : Option ((List UInt8 × Int) ⊕ (List UInt8)) :=
  (app b ([c2] : List UInt8) 1).bind fun b2 => BC i b2
noncomputable def uU (kind : Int) (key : List UInt8) : (List UInt8 × Int) → Option ((List UInt8 × Int) ⊕ (List UInt8))
  | (b, i) => (wO kind).bind fun r_ => if i < r_ then (if i < ((key.length : Nat) : Int) then ((aF key i).bind fun aC => yc b i aC) else (yc b i (0 : UInt8))) else (Option.map Sum.inr (some b))
noncomputable def yO (kind : Int) (key : List UInt8) : Option (List UInt8) :=
  if ((key.length : Nat) : Int) = 0 then (some ([] : List UInt8)) else (aX (uU kind key) (([] : List UInt8), (0 : Int)))
noncomputable def La (kind : Int) (aP : Int) (dA : Int) (aT : Int) (bn : Int) (cu : UInt32) (aH : UInt64) (bF : UInt32) (aB : Int) (bf : Int) (bu : List UInt8) (aA : List UInt8) (key : List UInt8) : Option (Int ⊕ (Int × Int × Int × Int × Int × UInt32 × UInt64 × UInt32 × Int × Int × Vec UInt64 16 × List UInt8)) :=
  (iT kind aP dA aT bn cu aH bF aB bf bu aA).bind fun r_ => if r_ ≠ 0 then (some (Sum.inl r_)) else (if ((decide (((key.length : Nat) : Int) ≠ 0)) && (decide (((key.length : Nat) : Int) ≠ dA))) = true then (some (Sum.inl (8 : Int))) else ((yO kind key).bind fun aQ => some (Sum.inr (kind, aP, dA, aT, bn, cu, aH, bF, aB, bf, (Vec.rep 16 (0 : UInt64)), aQ))))
noncomputable def vO (kind : Int) : Option Int :=
  if kind = 1 then (some (64 : Int)) else (some (32 : Int))
noncomputable def rG (qA : Int) (jg : Int) (oz : Int) (jh : Int) (kF : Int) (l9 : UInt32) (ji : UInt64) (oC : UInt32) (fE : Int) (kG : Int) (sW : Bool) (rH : Vec UInt64 16) (xE : Bool) (Ed : UInt64) (Ee : UInt64) (o7 : UInt64) (b : List UInt8) : (List UInt8 × Int) → Option ((List UInt8 × Int) ⊕ (Int × Int × Int × Int × Int × UInt32 × UInt64 × UInt32 × Int × Int × Bool × Vec UInt64 16 × Bool × UInt64 × UInt64 × List UInt8 × UInt64))
  | (n0, i) => if i < ((b.length : Nat) : Int) then ((aF b i).bind fun aC => (app n0 ([aC] : List UInt8) 1).bind fun b1 => some (.inl (b1, aI (i + 1)))) else (Option.map Sum.inr (some (qA, jg, oz, jh, kF, l9, ji, oC, fE, kG, sW, rH, xE, Ed, Ee, n0, o7 + (UInt64.ofInt ((b.length : Nat) : Int)))))
noncomputable def vP (qA : Int) (jg : Int) (oz : Int) (jh : Int) (kF : Int) (l9 : UInt32) (ji : UInt64) (oC : UInt32) (fE : Int) (kG : Int) (zu : List UInt8) (rq : List UInt8) (OO : List UInt8) (sW : Bool) (rH : Vec UInt64 16) (xE : Bool) (Ed : UInt64) (Ee : UInt64) (zy : List UInt8) (o7 : UInt64) (b : List UInt8) : Option (Int × Int × Int × Int × Int × UInt32 × UInt64 × UInt32 × Int × Int × Bool × Vec UInt64 16 × Bool × UInt64 × UInt64 × List UInt8 × UInt64) :=
  aX (rG qA jg oz jh kF l9 ji oC fE kG sW rH xE Ed Ee o7 b) (zy, (0 : Int))
noncomputable def QD (kind : Int) : Option Int :=
  (o6 kind).bind fun r_ => some r_
noncomputable def Hm (kind : Int) (field : Int) : Option (Int × Int) :=
  if ((decide (1 ≤ field)) && (decide (field ≤ 4))) = true then (some (aI (field - 1), (1 : Int))) else (if field = 5 then (some ((4 : Int), (4 : Int))) else (if ((decide (field = 6)) && (decide (kind = 1))) = true then (some ((8 : Int), (8 : Int))) else (if field = 6 then (some ((8 : Int), (6 : Int))) else (if ((decide (field = 7)) && (decide (kind = 1))) = true then (some ((12 : Int), (4 : Int))) else (if field = 7 then (some ((12 : Int), (2 : Int))) else (if ((decide (field = 8)) && (decide (kind = 1))) = true then (some ((16 : Int), (1 : Int))) else (if field = 8 then (some ((14 : Int), (1 : Int))) else (if ((decide (field = 9)) && (decide (kind = 1))) = true then (some ((17 : Int), (1 : Int))) else (if field = 9 then (some ((15 : Int), (1 : Int))) else (some ((0 : Int), (0 : Int))))))))))))
noncomputable def Aa (at_ : Int) (n : Int) (v : UInt64) : (List UInt8 × Int) → Option ((List UInt8 × Int) ⊕ (List UInt8))
  | (b1, i) => if i < n then ((aF b1 (aI (at_ + i))).bind fun aC => some (.inl (b1.set (Int.toNat (aI (at_ + i))) (UInt8.ofNat (jR v (((8 : UInt64) * (UInt64.ofInt i)).toNat)).toNat), aI (i + 1)))) else (Option.map Sum.inr (some b1))
noncomputable def Gt (b : List UInt8) (at_ : Int) (n : Int) (v : UInt64) : Option (List UInt8) :=
  aX (Aa at_ n v) (b, (0 : Int))
noncomputable def AO (f : Int) (b1 : List UInt8) : Option ((List UInt8 × Int) ⊕ (List UInt8 × Int)) :=
  some (.inl (b1, aI (f + 1)))
noncomputable def xu (f : Int) (b2 : List UInt8) : Option ((List UInt8 × Int) ⊕ (List UInt8 × Int)) :=
  AO f b2
noncomputable def sG (aA : List UInt8) (ja : Int) : (List UInt8 × Int) → Option ((List UInt8 × Int) ⊕ (List UInt8 × Int))
  | (b4, i1) => if i1 < ((aA.length : Nat) : Int) then ((aF aA i1).bind fun iR => (aF b4 (aI ((aI (3 * (aI (Int.tdiv ja 4)))) + i1))).bind fun kK => some (.inl (b4.set (Int.toNat (aI ((aI (3 * (aI (Int.tdiv ja 4)))) + i1))) iR, aI (i1 + 1)))) else (Option.map Sum.inr (some (b4, (0 : Int))))
noncomputable def sH (bu : List UInt8) (aA : List UInt8) (ja : Int) : (List UInt8 × Int) → Option ((List UInt8 × Int) ⊕ (List UInt8 × Int))
  | (b3, i) => if i < ((bu.length : Nat) : Int) then ((aF bu i).bind fun bY => (aF b3 (aI ((aI (2 * (aI (Int.tdiv ja 4)))) + i))).bind fun iy => some (.inl (b3.set (Int.toNat (aI ((aI (2 * (aI (Int.tdiv ja 4)))) + i))) bY, aI (i + 1)))) else (Option.map Sum.inr (aX (sG aA ja) (b3, (0 : Int))))
noncomputable def sJ (kind : Int) (aP : Int) (dA : Int) (aT : Int) (bn : Int) (cu : UInt32) (aH : UInt64) (bF : UInt32) (aB : Int) (bf : Int) (bu : List UInt8) (aA : List UInt8) : (List UInt8 × Int) → Option ((List UInt8 × Int) ⊕ (List UInt8 × Int))
  | (b, f) => if f ≤ 9 then (if ((decide (f = 7)) && (decide (bF = 0))) = true then (xu f b) else ((Hm kind f).bind fun bI => (aF ([UInt64.ofInt aP, UInt64.ofInt dA, UInt64.ofInt aT, UInt64.ofInt bn, UInt64.ofNat cu.toNat, aH, UInt64.ofNat bF.toNat, UInt64.ofInt aB, UInt64.ofInt bf] : List UInt64) (aI (f - 1))).bind fun aC => (Gt b bI.1 bI.2 aC).bind fun dN => xu f dN)) else (Option.map Sum.inr ((o6 kind).bind fun ja => aX (sH bu aA ja) (b, (0 : Int))))
noncomputable def lq (kind : Int) (aP : Int) (dA : Int) (aT : Int) (bn : Int) (cu : UInt32) (aH : UInt64) (bF : UInt32) (aB : Int) (bf : Int) (bu : List UInt8) (aA : List UInt8) : Option (List UInt8 × Int) :=
  (iT kind aP dA aT bn cu aH bF aB bf bu aA).bind fun r_ => if r_ ≠ 0 then (some (([] : List UInt8), r_)) else ((QD kind).bind fun aQ => (need ((0 : Int) ≤ aQ ∧ (aQ : Int) ≤ aQ ∧ Int.toNat aQ * 1 ≤ 140737488355328)).bind fun u => aX (sJ kind aP dA aT bn cu aH bF aB bf bu aA) (List.replicate (Int.toNat aQ) (0 : UInt8), (1 : Int)))
noncomputable def DI (b : List UInt8) (at_ : Int) : (UInt64 × Int) → Option ((UInt64 × Int) ⊕ (UInt64 × Int))
  | (w_, i) => if 0 ≤ i then ((aF b (aI (at_ + i))).bind fun aC => some (.inl ((w_ * 256) + (UInt64.ofNat aC.toNat), aI (i - 1)))) else (Option.map Sum.inr (some (w_, (0 : Int))))
noncomputable def yf (b : List UInt8) (at_ : Int) (n : Int) : Option (UInt64 × Int) :=
  if at_ < 0 then (some ((0 : UInt64), (1 : Int))) else (if ((decide (((b.length : Nat) : Int) < at_)) || (decide ((aI (((b.length : Nat) : Int) - at_)) < n))) = true then (some ((0 : UInt64), (3 : Int))) else (aX (DI b at_) ((0 : UInt64), aI (n - 1))))
noncomputable def Jd (i : Int) : Option UInt64 :=
  (aF (⟨[(7640891576956012808 : UInt64), (13503953896175478587 : UInt64), (4354685564936845355 : UInt64), (11912009170470909681 : UInt64), (5840696475078001361 : UInt64), (11170449401992604703 : UInt64), (2270897969802886507 : UInt64), (6620516959819538809 : UInt64)], rfl⟩ : Vec UInt64 8).l (Int.tmod i 8)).bind fun aC => some aC
noncomputable def yg (block : List UInt8) : (Vec UInt64 8 × Int) → Option ((Vec UInt64 8 × Int) ⊕ (Vec UInt64 8 × Int))
  | (h, i) => if i < 8 then ((yf block (aI (8 * i)) (8 : Int)).bind fun r_ => (Jd i).bind fun aQ => (aF h.l i).bind fun aC => (some (jy h i (aQ ^^^ r_.1))).bind fun v => some (.inl (v, aI (i + 1)))) else (Option.map Sum.inr (some (h, (0 : Int))))
noncomputable def BD (block : List UInt8) : Option (Vec UInt64 8 × Int) :=
  if ((block.length : Nat) : Int) ≠ 64 then (some ((Vec.rep 8 (0 : UInt64)), (1 : Int))) else (aX (yg block) ((Vec.rep 8 (0 : UInt64)), (0 : Int)))
noncomputable def Ff  : Option (Vec UInt32 8) :=
  some (⟨[(1779033703 : UInt32), (3144134277 : UInt32), (1013904242 : UInt32), (2773480762 : UInt32), (1359893119 : UInt32), (2600822924 : UInt32), (528734635 : UInt32), (1541459225 : UInt32)], rfl⟩ : Vec UInt32 8)
noncomputable def Ac (b : List UInt8) (at_ : Int) : Option UInt32 :=
  (aF b at_).bind fun aC => (aF b (aI (at_ + 1))).bind fun x_1 => (aF b (aI (at_ + 2))).bind fun bY => (aF b (aI (at_ + 3))).bind fun iy => some ((((UInt32.ofNat aC.toNat) + (xC (UInt32.ofNat x_1.toNat) ((8 : UInt64).toNat))) + (xC (UInt32.ofNat bY.toNat) ((16 : UInt64).toNat))) + (xC (UInt32.ofNat iy.toNat) ((24 : UInt64).toNat)))
noncomputable def yh (block : List UInt8) : (Vec UInt32 8 × Int) → Option ((Vec UInt32 8 × Int) ⊕ (Vec UInt32 8 × Int))
  | (h, i) => if i < 8 then ((aF h.l i).bind fun aC => (Ac block (aI (4 * i))).bind fun aQ => (aF h.l i).bind fun bY => (some (jy h i (aC ^^^ aQ))).bind fun v => some (.inl (v, aI (i + 1)))) else (Option.map Sum.inr (some (h, (0 : Int))))
noncomputable def BF (block : List UInt8) : Option (Vec UInt32 8 × Int) :=
  if ((block.length : Nat) : Int) < 32 then (some ((Vec.rep 8 (0 : UInt32)), (3 : Int))) else (if 32 < ((block.length : Nat) : Int) then (some ((Vec.rep 8 (0 : UInt32)), (2 : Int))) else ((Ff).bind fun r_ => aX (yh block) (r_, (0 : Int))))
noncomputable def rJ (qA : Int) (jg : Int) (oz : Int) (jh : Int) (kF : Int) (l9 : UInt32) (ji : UInt64) (oC : UInt32) (fE : Int) (kG : Int) (sW : Bool) (rH : Vec UInt64 16) (xE : Bool) (Ed : UInt64) (Ee : UInt64) (zy : List UInt8) (o7 : UInt64) (aQ : (Vec UInt64 8 × Int)) : (Vec UInt64 16 × Int) → Option ((Vec UInt64 16 × Int) ⊕ (Vec UInt64 16 × Int × Int × Int × Int × Int × UInt32 × UInt64 × UInt32 × Int × Int × Bool × Vec UInt64 16 × Bool × UInt64 × UInt64 × List UInt8 × UInt64))
  | (h, i) => if i < 8 then ((aF aQ.1.l i).bind fun aC => (aF h.l i).bind fun Dq => (some (jy h i aC)).bind fun v => some (.inl (v, aI (i + 1)))) else (Option.map Sum.inr (some (h, qA, jg, oz, jh, kF, l9, ji, oC, fE, kG, sW, rH, xE, Ed, Ee, zy, o7)))
noncomputable def rM (qA : Int) (jg : Int) (oz : Int) (jh : Int) (kF : Int) (l9 : UInt32) (ji : UInt64) (oC : UInt32) (fE : Int) (kG : Int) (sW : Bool) (rH : Vec UInt64 16) (xE : Bool) (Ed : UInt64) (Ee : UInt64) (zy : List UInt8) (o7 : UInt64) (bI : (Vec UInt32 8 × Int)) : (Vec UInt64 16 × Int) → Option ((Vec UInt64 16 × Int) ⊕ (Vec UInt64 16 × Int × Int × Int × Int × Int × UInt32 × UInt64 × UInt32 × Int × Int × Bool × Vec UInt64 16 × Bool × UInt64 × UInt64 × List UInt8 × UInt64))
  | (h1, i1) => if i1 < 8 then ((aF bI.1.l i1).bind fun Fe => (aF h1.l i1).bind fun Jc => (some (jy h1 i1 (UInt64.ofNat Fe.toNat))).bind fun v1 => some (.inl (v1, aI (i1 + 1)))) else (Option.map Sum.inr (some (h1, qA, jg, oz, jh, kF, l9, ji, oC, fE, kG, sW, rH, xE, Ed, Ee, zy, o7)))
noncomputable def mO (qA : Int) (jg : Int) (oz : Int) (jh : Int) (kF : Int) (l9 : UInt32) (ji : UInt64) (oC : UInt32) (fE : Int) (kG : Int) (zu : List UInt8) (rq : List UInt8) (OO : List UInt8) (sW : Bool) (rH : Vec UInt64 16) (xE : Bool) (Ed : UInt64) (Ee : UInt64) (zy : List UInt8) (o7 : UInt64) : Option (Vec UInt64 16 × Int × Int × Int × Int × Int × UInt32 × UInt64 × UInt32 × Int × Int × Bool × Vec UInt64 16 × Bool × UInt64 × UInt64 × List UInt8 × UInt64) :=
  if xE = true then (some (rH, qA, jg, oz, jh, kF, l9, ji, oC, fE, kG, sW, rH, xE, Ed, Ee, zy, o7)) else ((lq qA jg oz jh kF l9 ji oC fE kG zu rq).bind fun r_ => if qA = 1 then ((BD r_.1).bind fun aQ => aX (rJ qA jg oz jh kF l9 ji oC fE kG sW rH xE Ed Ee zy o7 aQ) ((Vec.rep 16 (0 : UInt64)), (0 : Int))) else ((BF r_.1).bind fun bI => aX (rM qA jg oz jh kF l9 ji oC fE kG sW rH xE Ed Ee zy o7 bI) ((Vec.rep 16 (0 : UInt64)), (0 : Int))))
noncomputable def zA (lo : UInt64) (hi : UInt64) (n : UInt64) : Option (UInt64 × UInt64 × Bool) :=
  if lo ≤ (lo + n) then (some (lo + n, hi, false)) else (some (lo + n, hi + 1, decide ((hi + 1) = 0)))
noncomputable def Fg (i : Int) (out1 : List UInt8) : Option ((List UInt8 × Int) ⊕ (List UInt8)) :=
  some (.inl (out1, aI (i + 1)))
noncomputable def Ad (out : List UInt8) (i : Int) (c2 : UInt8) : Option ((List UInt8 × Int) ⊕ (List UInt8)) :=
  (app out ([c2] : List UInt8) 1).bind fun out2 => Fg i out2
noncomputable def xN (b : List UInt8) (at_ : Int) (size : Int) : (List UInt8 × Int) → Option ((List UInt8 × Int) ⊕ (List UInt8))
  | (out, i) => if i < size then (if (aI (at_ + i)) < ((b.length : Nat) : Int) then ((aF b (aI (at_ + i))).bind fun aC => Ad out i aC) else (Ad out i (0 : UInt8))) else (Option.map Sum.inr (some out))
noncomputable def CP (b : List UInt8) (at_ : Int) (size : Int) : Option (List UInt8) :=
  aX (xN b at_ size) (([] : List UInt8), (0 : Int))
noncomputable def yj (b : List UInt8) : (Vec UInt64 16 × Int) → Option ((Vec UInt64 16 × Int) ⊕ (Vec UInt64 16 × Int))
  | (m_, i) => if i < 16 then ((yf b (aI (8 * i)) (8 : Int)).bind fun r_ => (aF m_.l i).bind fun aC => (some (jy m_ i r_.1)).bind fun v => some (.inl (v, aI (i + 1)))) else (Option.map Sum.inr (some (m_, (0 : Int))))
noncomputable def BG (b : List UInt8) : Option (Vec UInt64 16 × Int) :=
  if ((b.length : Nat) : Int) ≠ 128 then (some ((Vec.rep 16 (0 : UInt64)), (1 : Int))) else (aX (yj b) ((Vec.rep 16 (0 : UInt64)), (0 : Int)))
noncomputable def DJ (v7 : Vec UInt64 16) : Option (Vec UInt64 16) :=
  some v7
noncomputable def DK (node : Bool) (v5 : Vec UInt64 16) : Option (Vec UInt64 16) :=
  if node = true then ((aF v5.l (15 : Int)).bind fun zK => (aF v5.l (15 : Int)).bind fun qZ => (some (jy v5 (15 : Int) (18446744073709551615 ^^^ zK))).bind fun v8 => DJ v8) else (DJ v5)
noncomputable def DL (h : Vec UInt64 8) (lo : UInt64) (hi : UInt64) (last : Bool) (node : Bool) : (Vec UInt64 16 × Int) → Option ((Vec UInt64 16 × Int) ⊕ (Vec UInt64 16))
  | (v, i) => if i < 8 then ((aF h.l i).bind fun aC => (aF v.l i).bind fun x_1 => (some (jy v i aC)).bind fun v1 => (Jd i).bind fun r_ => (aF v1.l (aI (i + 8))).bind fun bY => (some (jy v1 (aI (i + 8)) r_)).bind fun v2 => some (.inl (v2, aI (i + 1)))) else (Option.map Sum.inr ((aF v.l (12 : Int)).bind fun iy => (aF v.l (12 : Int)).bind fun iR => (some (jy v (12 : Int) (iy ^^^ lo))).bind fun v3 => (aF v3.l (13 : Int)).bind fun kK => (aF v3.l (13 : Int)).bind fun lh => (some (jy v3 (13 : Int) (kK ^^^ hi))).bind fun v4 => if last = true then ((aF v4.l (14 : Int)).bind fun qj => (aF v4.l (14 : Int)).bind fun CO => (some (jy v4 (14 : Int) (18446744073709551615 ^^^ qj))).bind fun v6 => DK node v6) else (DK node v4)))
noncomputable def Ef (h : Vec UInt64 8) (lo : UInt64) (hi : UInt64) (last : Bool) (node : Bool) : Option (Vec UInt64 16) :=
  aX (DL h lo hi last node) ((Vec.rep 16 (0 : UInt64)), (0 : Int))
noncomputable def Fh (i : Int) : Option (Vec Int 4) :=
  (aF (⟨[(⟨[(0 : Int), (4 : Int), (8 : Int), (12 : Int)], rfl⟩ : Vec Int 4), (⟨[(1 : Int), (5 : Int), (9 : Int), (13 : Int)], rfl⟩ : Vec Int 4), (⟨[(2 : Int), (6 : Int), (10 : Int), (14 : Int)], rfl⟩ : Vec Int 4), (⟨[(3 : Int), (7 : Int), (11 : Int), (15 : Int)], rfl⟩ : Vec Int 4), (⟨[(0 : Int), (5 : Int), (10 : Int), (15 : Int)], rfl⟩ : Vec Int 4), (⟨[(1 : Int), (6 : Int), (11 : Int), (12 : Int)], rfl⟩ : Vec Int 4), (⟨[(2 : Int), (7 : Int), (8 : Int), (13 : Int)], rfl⟩ : Vec Int 4), (⟨[(3 : Int), (4 : Int), (9 : Int), (14 : Int)], rfl⟩ : Vec Int 4)], rfl⟩ : Vec (Vec Int 4) 8).l (Int.tmod i 8)).bind fun aC => some aC
noncomputable def DN (r_ : Int) : Option Int :=
  some r_
noncomputable def Je (n : Int) (m_ : Int) : Option Int :=
  (need (m_ ≠ 0)).bind fun u => if (Int.tmod n m_) < 0 then (DN (aI ((Int.tmod n m_) + m_))) else (DN (Int.tmod n m_))
noncomputable def OQ (c : UInt8) : Option Int :=
  if ((decide ((48 : UInt8) ≤ c)) && (decide (c ≤ 57))) = true then (some ((c - 48).toNat : Int)) else (if ((decide ((97 : UInt8) ≤ c)) && (decide (c ≤ 102))) = true then (some (aI (((c - 97).toNat : Int) + 10))) else (if ((decide ((65 : UInt8) ≤ c)) && (decide (c ≤ 70))) = true then (some (aI (((c - 65).toNat : Int) + 10))) else (some (-1 : Int))))
noncomputable def wP (round : Int) (i : Int) : Option Int :=
  (Je round (10 : Int)).bind fun r_ => (aF ([48, 49, 50, 51, 52, 53, 54, 55, 56, 57, 97, 98, 99, 100, 101, 102, 101, 97, 52, 56, 57, 102, 100, 54, 49, 99, 48, 50, 98, 55, 53, 51, 98, 56, 99, 48, 53, 50, 102, 100, 97, 101, 51, 54, 55, 49, 57, 52, 55, 57, 51, 49, 100, 99, 98, 101, 50, 54, 53, 97, 52, 48, 102, 56, 57, 48, 53, 55, 50, 52, 97, 102, 101, 49, 98, 99, 54, 56, 51, 100, 50, 99, 54, 97, 48, 98, 56, 51, 52, 100, 55, 53, 102, 101, 49, 57, 99, 53, 49, 102, 101, 100, 52, 97, 48, 55, 54, 51, 57, 50, 56, 98, 100, 98, 55, 101, 99, 49, 51, 57, 53, 48, 102, 52, 56, 54, 50, 97, 54, 102, 101, 57, 98, 51, 48, 56, 99, 50, 100, 55, 49, 52, 97, 53, 97, 50, 56, 52, 55, 54, 49, 53, 102, 98, 57, 101, 51, 99, 100, 48] : List UInt8) (aI ((aI (16 * r_)) + i))).bind fun c => (OQ c).bind fun aQ => some aQ
noncomputable def uh (a_ : Int) : Option Bool :=
  some ((decide (0 ≤ a_)) && (decide (a_ ≤ 15)))
noncomputable def nS (w_ : UInt64) (n : Int) : Option UInt64 :=
  (Je n (64 : Int)).bind fun r_ => if r_ = 0 then (some w_) else ((need (0 ≤ r_)).bind fun u => (need (0 ≤ aI (64 - r_))).bind fun u1 => some ((jR w_ (Int.toNat r_)) ||| (o_ w_ (Int.toNat (aI (64 - r_))))))
noncomputable def MW (v : Vec UInt64 16) (a_ : Int) (b : Int) (c : Int) (d : Int) (x_ : UInt64) (y_ : UInt64) : Option (Vec UInt64 16 × Int) :=
  (uh a_).bind fun r_ => if (!r_) = true then (some ((Vec.rep 16 ((0 : UInt64) : UInt64)), (1 : Int))) else ((uh b).bind fun aQ => if (!aQ) = true then (some ((Vec.rep 16 ((0 : UInt64) : UInt64)), (1 : Int))) else ((uh c).bind fun bI => if (!bI) = true then (some ((Vec.rep 16 ((0 : UInt64) : UInt64)), (1 : Int))) else ((uh d).bind fun dN => if (((((((!dN) || (decide (a_ = b))) || (decide (a_ = c))) || (decide (a_ = d))) || (decide (b = c))) || (decide (b = d))) || (decide (c = d))) = true then (some ((Vec.rep 16 ((0 : UInt64) : UInt64)), (1 : Int))) else ((aF v.l a_).bind fun iy => (aF v.l b).bind fun iR => (aF v.l a_).bind fun kK => (some (jy v a_ ((iy + iR) + x_))).bind fun v1 => (aF v1.l d).bind fun lh => (aF v1.l a_).bind fun qj => (nS (lh ^^^ qj) (32 : Int)).bind fun ja => (aF v1.l d).bind fun CO => (some (jy v1 d ja)).bind fun v2 => (aF v2.l c).bind fun zK => (aF v2.l d).bind fun qZ => (aF v2.l c).bind fun fZ => (some (jy v2 c (zK + qZ))).bind fun v3 => (aF v3.l b).bind fun Ea => (aF v3.l c).bind fun H5 => (nS (Ea ^^^ H5) (24 : Int)).bind fun iO => (aF v3.l b).bind fun J8 => (some (jy v3 b iO)).bind fun v4 => (aF v4.l a_).bind fun Dp => (aF v4.l b).bind fun J9 => (aF v4.l a_).bind fun MQ => (some (jy v4 a_ ((Dp + J9) + y_))).bind fun v5 => (aF v5.l d).bind fun Dq => (aF v5.l a_).bind fun Fe => (nS (Dq ^^^ Fe) (16 : Int)).bind fun qw => (aF v5.l d).bind fun Jc => (some (jy v5 d qw)).bind fun v6 => (aF v6.l c).bind fun Dt => (aF v6.l d).bind fun J_ => (aF v6.l c).bind fun MR => (some (jy v6 c (Dt + J_))).bind fun v7 => (aF v7.l b).bind fun Ec => (aF v7.l c).bind fun H6 => (nS (Ec ^^^ H6) (63 : Int)).bind fun nJ => (aF v7.l b).bind fun ZV => (some (jy v7 b nJ)).bind fun v8 => some (v8, (0 : Int))))))
noncomputable def BH (m_ : Vec UInt64 16) (round : Int) : (Vec UInt64 16 × Int) → Option ((Vec UInt64 16 × Int) ⊕ (Vec UInt64 16 × Int))
  | (v1, i) => if i < 8 then ((Fh i).bind fun r_ => (aF r_.l (0 : Int)).bind fun aC => (aF r_.l (1 : Int)).bind fun bY => (aF r_.l (2 : Int)).bind fun iy => (aF r_.l (3 : Int)).bind fun iR => (wP round (aI (2 * i))).bind fun aQ => (aF m_.l aQ).bind fun kK => (wP round (aI ((aI (2 * i)) + 1))).bind fun bI => (aF m_.l bI).bind fun lh => (MW v1 aC bY iy iR kK lh).bind fun dN => some (.inl (dN.1, aI (i + 1)))) else (Option.map Sum.inr (some (v1, (0 : Int))))
noncomputable def BI (v : Vec UInt64 16) (m_ : Vec UInt64 16) (round : Int) : Option (Vec UInt64 16 × Int) :=
  if ((decide (round < 0)) || (decide (11 < round))) = true then (some ((Vec.rep 16 ((0 : UInt64) : UInt64)), (1 : Int))) else (aX (BH m_ round) (v, (0 : Int)))
noncomputable def Eg (v : Vec UInt64 16) : (Vec UInt64 8 × Int) → Option ((Vec UInt64 8 × Int) ⊕ (Vec UInt64 8))
  | (h1, i) => if i < 8 then ((aF h1.l i).bind fun aC => (aF v.l i).bind fun x_1 => (aF v.l (aI (i + 8))).bind fun bY => (aF h1.l i).bind fun iy => (some (jy h1 i ((aC ^^^ x_1) ^^^ bY))).bind fun v1 => some (.inl (v1, aI (i + 1)))) else (Option.map Sum.inr (some h1))
noncomputable def Eh (h : Vec UInt64 8) (m_ : Vec UInt64 16) : (Vec UInt64 16 × Int) → Option ((Vec UInt64 16 × Int) ⊕ (Vec UInt64 8))
  | (v, aQ) => if aQ < 12 then ((BI v m_ aQ).bind fun bI => some (.inl (bI.1, aI (aQ + 1)))) else (Option.map Sum.inr (aX (Eg v) (h, (0 : Int))))
noncomputable def MZ (h : Vec UInt64 8) (m_ : Vec UInt64 16) (lo : UInt64) (hi : UInt64) (last : Bool) (node : Bool) : Option (Vec UInt64 8) :=
  (Ef h lo hi last node).bind fun r_ => aX (Eh h m_) (r_, (0 : Int))
noncomputable def yl (b : List UInt8) : (Vec UInt32 16 × Int) → Option ((Vec UInt32 16 × Int) ⊕ (Vec UInt32 16 × Int))
  | (m_, i) => if i < 16 then ((Ac b (aI (4 * i))).bind fun r_ => (aF m_.l i).bind fun aC => (some (jy m_ i r_)).bind fun v => some (.inl (v, aI (i + 1)))) else (Option.map Sum.inr (some (m_, (0 : Int))))
noncomputable def BJ (b : List UInt8) : Option (Vec UInt32 16 × Int) :=
  if ((b.length : Nat) : Int) < 64 then (some ((Vec.rep 16 (0 : UInt32)), (3 : Int))) else (if 64 < ((b.length : Nat) : Int) then (some ((Vec.rep 16 (0 : UInt32)), (2 : Int))) else (aX (yl b) ((Vec.rep 16 (0 : UInt32)), (0 : Int))))
noncomputable def yt (v7 : Vec UInt32 16) : Option (Vec UInt32 16) :=
  some v7
noncomputable def yu (node : Bool) (v5 : Vec UInt32 16) : Option (Vec UInt32 16) :=
  if node = true then ((aF v5.l (15 : Int)).bind fun qZ => (aF v5.l (15 : Int)).bind fun fZ => (some (jy v5 (15 : Int) (qZ ^^^ 4294967295))).bind fun v8 => yt v8) else (yt v5)
noncomputable def yw (h : Vec UInt32 8) (count : UInt64) (last : Bool) (node : Bool) (r_ : (Vec UInt32 8)) : (Vec UInt32 16 × Int) → Option ((Vec UInt32 16 × Int) ⊕ (Vec UInt32 16))
  | (v, i) => if i < 8 then ((aF h.l i).bind fun aC => (aF v.l i).bind fun x_1 => (some (jy v i aC)).bind fun v1 => (aF r_.l i).bind fun bY => (aF v1.l (aI (i + 8))).bind fun iy => (some (jy v1 (aI (i + 8)) bY)).bind fun v2 => some (.inl (v2, aI (i + 1)))) else (Option.map Sum.inr ((aF v.l (12 : Int)).bind fun iR => (aF v.l (12 : Int)).bind fun kK => (some (jy v (12 : Int) (iR ^^^ (UInt32.ofNat count.toNat)))).bind fun v3 => (aF v3.l (13 : Int)).bind fun lh => (aF v3.l (13 : Int)).bind fun qj => (some (jy v3 (13 : Int) (lh ^^^ (UInt32.ofNat (jR count ((32 : UInt64).toNat)).toNat)))).bind fun v4 => if last = true then ((aF v4.l (14 : Int)).bind fun CO => (aF v4.l (14 : Int)).bind fun zK => (some (jy v4 (14 : Int) (CO ^^^ 4294967295))).bind fun v6 => yu node v6) else (yu node v4)))
noncomputable def BK (h : Vec UInt32 8) (count : UInt64) (last : Bool) (node : Bool) : Option (Vec UInt32 16) :=
  (Ff).bind fun r_ => aX (yw h count last node r_) ((Vec.rep 16 (0 : UInt32)), (0 : Int))
noncomputable def Jf (i : Int) : Option (Int × Int × Int × Int) :=
  if i < 4 then (some (i, aI (i + 4), aI (i + 8), aI (i + 12))) else (some (aI (i - 4), aI (4 + (Int.tmod (aI ((aI (i - 4)) + 1)) 4)), aI (8 + (Int.tmod (aI ((aI (i - 4)) + 2)) 4)), aI (12 + (Int.tmod (aI ((aI (i - 4)) + 3)) 4))))
noncomputable def xw (a_ : Int) (b : Int) (c : Int) (d : Int) (i : Int) : Int → Option (Int ⊕ (Int ⊕ Bool))
  | j => if j < i then ((aF ([a_, b, c, d] : List Int) i).bind fun bY => (aF ([a_, b, c, d] : List Int) j).bind fun iy => if bY = iy then (Option.map Sum.inr (Option.map Sum.inr (some false))) else (some (.inl (aI (j + 1))))) else (Option.map Sum.inr (some (.inl (aI (i + 1)))))
noncomputable def AP (a_ : Int) (b : Int) (c : Int) (d : Int) : Int → Option (Int ⊕ Bool)
  | i => if i < 4 then ((aF ([a_, b, c, d] : List Int) i).bind fun aC => (gif (!(decide (aC < 0))) (aF ([a_, b, c, d] : List Int) i)).bind fun x_1 => if ((decide (aC < 0)) || (decide (15 < x_1))) = true then (Option.map Sum.inr (some false)) else (aX (xw a_ b c d i) (0 : Int))) else (Option.map Sum.inr (some true))
noncomputable def Ae (a_ : Int) (b : Int) (c : Int) (d : Int) : Option Bool :=
  aX (AP a_ b c d) (0 : Int)
noncomputable def qE (x_ : UInt32) (r_ : Int) : Option UInt32 :=
  some ((iH x_ ((UInt64.ofInt r_).toNat)) ||| (xC x_ ((UInt64.ofInt (aI (32 - r_))).toNat)))
noncomputable def M_ (v : Vec UInt32 16) (a_ : Int) (b : Int) (c : Int) (d : Int) (x_ : UInt32) (y_ : UInt32) : Option (Vec UInt32 16 × Int) :=
  (Ae a_ b c d).bind fun r_ => if (!r_) = true then (some ((Vec.rep 16 ((0 : UInt32) : UInt32)), (1 : Int))) else ((aF v.l a_).bind fun iy => (aF v.l b).bind fun iR => (aF v.l a_).bind fun kK => (some (jy v a_ ((iy + iR) + x_))).bind fun v1 => (aF v1.l d).bind fun lh => (aF v1.l a_).bind fun qj => (qE (lh ^^^ qj) (16 : Int)).bind fun aQ => (aF v1.l d).bind fun CO => (some (jy v1 d aQ)).bind fun v2 => (aF v2.l c).bind fun zK => (aF v2.l d).bind fun qZ => (aF v2.l c).bind fun fZ => (some (jy v2 c (zK + qZ))).bind fun v3 => (aF v3.l b).bind fun Ea => (aF v3.l c).bind fun H5 => (qE (Ea ^^^ H5) (12 : Int)).bind fun bI => (aF v3.l b).bind fun J8 => (some (jy v3 b bI)).bind fun v4 => (aF v4.l a_).bind fun Dp => (aF v4.l b).bind fun J9 => (aF v4.l a_).bind fun MQ => (some (jy v4 a_ ((Dp + J9) + y_))).bind fun v5 => (aF v5.l d).bind fun Dq => (aF v5.l a_).bind fun Fe => (qE (Dq ^^^ Fe) (8 : Int)).bind fun dN => (aF v5.l d).bind fun Jc => (some (jy v5 d dN)).bind fun v6 => (aF v6.l c).bind fun Dt => (aF v6.l d).bind fun J_ => (aF v6.l c).bind fun MR => (some (jy v6 c (Dt + J_))).bind fun v7 => (aF v7.l b).bind fun Ec => (aF v7.l c).bind fun H6 => (qE (Ec ^^^ H6) (7 : Int)).bind fun ja => (aF v7.l b).bind fun ZV => (some (jy v7 b ja)).bind fun v8 => some (v8, (0 : Int)))
noncomputable def BL (m_ : Vec UInt32 16) (r_ : Int) : (Vec UInt32 16 × Int) → Option ((Vec UInt32 16 × Int) ⊕ (Vec UInt32 16 × Int))
  | (v1, i) => if i < 8 then ((Jf i).bind fun aQ => (wP r_ (aI (2 * i))).bind fun bI => (aF m_.l bI).bind fun aC => (wP r_ (aI ((aI (2 * i)) + 1))).bind fun dN => (aF m_.l dN).bind fun bY => (M_ v1 aQ.1 aQ.2.1 aQ.2.2.1 aQ.2.2.2 aC bY).bind fun ja => some (.inl (ja.1, aI (i + 1)))) else (Option.map Sum.inr (some (v1, (0 : Int))))
noncomputable def BM (v : Vec UInt32 16) (m_ : Vec UInt32 16) (r_ : Int) : Option (Vec UInt32 16 × Int) :=
  if ((decide (r_ < 0)) || (decide (9 < r_))) = true then (some ((Vec.rep 16 ((0 : UInt32) : UInt32)), (1 : Int))) else (aX (BL m_ r_) (v, (0 : Int)))
noncomputable def Fj (v : Vec UInt32 16) : (Vec UInt32 8 × Int) → Option ((Vec UInt32 8 × Int) ⊕ (Vec UInt32 8))
  | (h1, i) => if i < 8 then ((aF h1.l i).bind fun aC => (aF v.l i).bind fun x_1 => (aF v.l (aI (i + 8))).bind fun bY => (aF h1.l i).bind fun iy => (some (jy h1 i ((aC ^^^ x_1) ^^^ bY))).bind fun v1 => some (.inl (v1, aI (i + 1)))) else (Option.map Sum.inr (some h1))
noncomputable def Gu (h : Vec UInt32 8) (v : Vec UInt32 16) : Option (Vec UInt32 8) :=
  aX (Fj v) (h, (0 : Int))
noncomputable def Ei (h : Vec UInt32 8) (m_ : Vec UInt32 16) : (Vec UInt32 16 × Int) → Option ((Vec UInt32 16 × Int) ⊕ (Vec UInt32 8))
  | (v, aQ) => if aQ < 10 then ((BM v m_ aQ).bind fun bI => some (.inl (bI.1, aI (aQ + 1)))) else (Option.map Sum.inr ((Gu h v).bind fun dN => some dN))
noncomputable def Na (h : Vec UInt32 8) (m_ : Vec UInt32 16) (count : UInt64) (last : Bool) (node : Bool) : Option (Vec UInt32 8) :=
  (BK h count last node).bind fun r_ => aX (Ei h m_) (r_, (0 : Int))
noncomputable def yP (aQ : (Vec UInt64 8)) : (Vec UInt64 16 × Int) → Option ((Vec UInt64 16 × Int) ⊕ (Vec UInt64 16))
  | (h1, i1) => if i1 < 8 then ((aF aQ.l i1).bind fun bY => (aF h1.l i1).bind fun iy => (some (jy h1 i1 bY)).bind fun v1 => some (.inl (v1, aI (i1 + 1)))) else (Option.map Sum.inr (some h1))
noncomputable def BN (h : Vec UInt64 16) (b : List UInt8) (lo : UInt64) (hi : UInt64) (last : Bool) (node : Bool) : (Vec UInt64 8 × Int) → Option ((Vec UInt64 8 × Int) ⊕ (Vec UInt64 16))
  | (s_, i) => if i < 8 then ((aF h.l i).bind fun aC => (aF s_.l i).bind fun x_1 => (some (jy s_ i aC)).bind fun v => some (.inl (v, aI (i + 1)))) else (Option.map Sum.inr ((BG b).bind fun r_ => (MZ s_ r_.1 lo hi last node).bind fun aQ => aX (yP aQ) (h, (0 : Int))))
noncomputable def yQ (dN : (Vec UInt32 8)) : (Vec UInt64 16 × Int) → Option ((Vec UInt64 16 × Int) ⊕ (Vec UInt64 16))
  | (h2, i3) => if i3 < 8 then ((aF dN.l i3).bind fun lh => (aF h2.l i3).bind fun qj => (some (jy h2 i3 (UInt64.ofNat lh.toNat))).bind fun v3 => some (.inl (v3, aI (i3 + 1)))) else (Option.map Sum.inr (some h2))
noncomputable def BO (h : Vec UInt64 16) (b : List UInt8) (lo : UInt64) (last : Bool) (node : Bool) : (Vec UInt32 8 × Int) → Option ((Vec UInt32 8 × Int) ⊕ (Vec UInt64 16))
  | (yR, i2) => if i2 < 8 then ((aF h.l i2).bind fun iR => (aF yR.l i2).bind fun kK => (some (jy yR i2 (UInt32.ofNat iR.toNat))).bind fun v2 => some (.inl (v2, aI (i2 + 1)))) else (Option.map Sum.inr ((BJ b).bind fun bI => (Na yR bI.1 lo last node).bind fun dN => aX (yQ dN) (h, (0 : Int))))
noncomputable def yx (kind : Int) (h : Vec UInt64 16) (b : List UInt8) (lo : UInt64) (hi : UInt64) (last : Bool) (node : Bool) : Option (Vec UInt64 16) :=
  if kind = 1 then (aX (BN h b lo hi last node) ((Vec.rep 8 (0 : UInt64)), (0 : Int))) else (aX (BO h b lo last node) ((Vec.rep 8 (0 : UInt32)), (0 : Int)))
noncomputable def wQ (r_ : (Vec UInt64 16 × Int × Int × Int × Int × Int × UInt32 × UInt64 × UInt32 × Int × Int × Bool × Vec UInt64 16 × Bool × UInt64 × UInt64 × List UInt8 × UInt64)) (aQ : Int) : (Vec UInt64 16 × UInt64 × UInt64 × Int) → Option ((Vec UInt64 16 × UInt64 × UInt64 × Int) ⊕ (Vec UInt64 16 × UInt64 × UInt64 × Int × Int × Int × Int × Int × Int × UInt32 × UInt64 × UInt32 × Int × Int × Bool × Vec UInt64 16 × Bool × UInt64 × UInt64 × List UInt8 × UInt64))
  | (h, lo, hi, at_) => if (aI (at_ + aQ)) < ((r_.2.2.2.2.2.2.2.2.2.2.2.2.2.2.2.2.1.length : Nat) : Int) then ((zA lo hi (UInt64.ofInt aQ)).bind fun bI => (CP r_.2.2.2.2.2.2.2.2.2.2.2.2.2.2.2.2.1 at_ aQ).bind fun dN => (yx r_.2.1 h dN bI.1 bI.2.1 false false).bind fun ja => some (.inl (ja, bI.1, bI.2.1, aI (at_ + aQ)))) else (Option.map Sum.inr (some (h, lo, hi, at_, r_.2.1, r_.2.2.1, r_.2.2.2.1, r_.2.2.2.2.1, r_.2.2.2.2.2.1, r_.2.2.2.2.2.2.1, r_.2.2.2.2.2.2.2.1, r_.2.2.2.2.2.2.2.2.1, r_.2.2.2.2.2.2.2.2.2.1, r_.2.2.2.2.2.2.2.2.2.2.1, r_.2.2.2.2.2.2.2.2.2.2.2.1, r_.2.2.2.2.2.2.2.2.2.2.2.2.1, r_.2.2.2.2.2.2.2.2.2.2.2.2.2.1, r_.2.2.2.2.2.2.2.2.2.2.2.2.2.2.1, r_.2.2.2.2.2.2.2.2.2.2.2.2.2.2.2.1, r_.2.2.2.2.2.2.2.2.2.2.2.2.2.2.2.2.1, r_.2.2.2.2.2.2.2.2.2.2.2.2.2.2.2.2.2)))
noncomputable def uV (qA : Int) (jg : Int) (oz : Int) (jh : Int) (kF : Int) (l9 : UInt32) (ji : UInt64) (oC : UInt32) (fE : Int) (kG : Int) (zu : List UInt8) (rq : List UInt8) (OO : List UInt8) (sW : Bool) (rH : Vec UInt64 16) (xE : Bool) (Ed : UInt64) (Ee : UInt64) (zy : List UInt8) (o7 : UInt64) : Option (Vec UInt64 16 × UInt64 × UInt64 × Int × Int × Int × Int × Int × Int × UInt32 × UInt64 × UInt32 × Int × Int × Bool × Vec UInt64 16 × Bool × UInt64 × UInt64 × List UInt8 × UInt64) :=
  (mO qA jg oz jh kF l9 ji oC fE kG zu rq OO sW rH xE Ed Ee zy o7).bind fun r_ => (wO r_.2.1).bind fun aQ => aX (wQ r_ aQ) (r_.1, r_.2.2.2.2.2.2.2.2.2.2.2.2.2.2.1, r_.2.2.2.2.2.2.2.2.2.2.2.2.2.2.2.1, (0 : Int))
noncomputable def BP (n : Int) : (UInt64 × List UInt8 × Int) → Option ((UInt64 × List UInt8 × Int) ⊕ (List UInt8))
  | (o9, b, i) => if i < n then ((app b ([UInt8.ofNat (o9 % 256).toNat] : List UInt8) 1).bind fun b1 => some (.inl (o9 / 256, b1, aI (i + 1)))) else (Option.map Sum.inr (some b))
noncomputable def BQ (w_ : UInt64) (n : Int) : Option (List UInt8) :=
  aX (BP n) (w_, ([] : List UInt8), (0 : Int))
noncomputable def yz (kind : Int) (h : Vec UInt64 16) : (List UInt8 × Int) → Option ((List UInt8 × Int) ⊕ (List UInt8))
  | (b, i) => if i < 8 then ((aF h.l i).bind fun aC => (vO kind).bind fun r_ => (BQ aC (aI (Int.tdiv r_ 8))).bind fun aQ => (app b aQ 1).bind fun b1 => some (.inl (b1, aI (i + 1)))) else (Option.map Sum.inr (some b))
noncomputable def ui (kind : Int) (h : Vec UInt64 16) : Option (List UInt8) :=
  aX (yz kind h) (([] : List UInt8), (0 : Int))
noncomputable def yA (qA : Int) (jg : Int) (oz : Int) (jh : Int) (kF : Int) (l9 : UInt32) (ji : UInt64) (oC : UInt32) (fE : Int) (kG : Int) (zu : List UInt8) (rq : List UInt8) (OO : List UInt8) (sW : Bool) (rH : Vec UInt64 16) (xE : Bool) (Ed : UInt64) (Ee : UInt64) (zy : List UInt8) (o7 : UInt64) : Option (List UInt8 × Int × Int × Int × Int × Int × UInt32 × UInt64 × UInt32 × Int × Int × Bool × Vec UInt64 16 × Bool × UInt64 × UInt64 × List UInt8 × UInt64) :=
  (uV qA jg oz jh kF l9 ji oC fE kG zu rq OO sW rH xE Ed Ee zy o7).bind fun r_ => (zA r_.2.1 r_.2.2.1 (UInt64.ofInt (aI (((r_.2.2.2.2.2.2.2.2.2.2.2.2.2.2.2.2.2.2.2.1.length : Nat) : Int) - r_.2.2.2.1)))).bind fun aQ => (wO r_.2.2.2.2.1).bind fun bI => (CP r_.2.2.2.2.2.2.2.2.2.2.2.2.2.2.2.2.2.2.2.1 r_.2.2.2.1 bI).bind fun dN => (yx r_.2.2.2.2.1 r_.1 dN aQ.1 aQ.2.1 true r_.2.2.2.2.2.2.2.2.2.2.2.2.2.2.1).bind fun ja => (ui r_.2.2.2.2.1 ja).bind fun iO => some (iO, r_.2.2.2.2.1, r_.2.2.2.2.2.1, r_.2.2.2.2.2.2.1, r_.2.2.2.2.2.2.2.1, r_.2.2.2.2.2.2.2.2.1, r_.2.2.2.2.2.2.2.2.2.1, r_.2.2.2.2.2.2.2.2.2.2.1, r_.2.2.2.2.2.2.2.2.2.2.2.1, r_.2.2.2.2.2.2.2.2.2.2.2.2.1, r_.2.2.2.2.2.2.2.2.2.2.2.2.2.1, r_.2.2.2.2.2.2.2.2.2.2.2.2.2.2.1, r_.2.2.2.2.2.2.2.2.2.2.2.2.2.2.2.1, r_.2.2.2.2.2.2.2.2.2.2.2.2.2.2.2.2.1, r_.2.2.2.2.2.2.2.2.2.2.2.2.2.2.2.2.2.1, r_.2.2.2.2.2.2.2.2.2.2.2.2.2.2.2.2.2.2.1, r_.2.2.2.2.2.2.2.2.2.2.2.2.2.2.2.2.2.2.2.1, r_.2.2.2.2.2.2.2.2.2.2.2.2.2.2.2.2.2.2.2.2)
noncomputable def Af (kind : Int) (aP : Int) (dA : Int) (aT : Int) (bn : Int) (cu : UInt32) (aH : UInt64) (bF : UInt32) (aB : Int) (bf : Int) (bu : List UInt8) (aA : List UInt8) (key : List UInt8) (last : Bool) (out : Int) (data : List UInt8) : Option (List UInt8 × Int) :=
  (La kind aP dA aT bn cu aH bF aB bf bu aA key).bind fun r_ => (Sum.elim (fun aQ => if aQ ≠ 0 then (some (([] : List UInt8), aQ)) else (if out < 1 then (some (([] : List UInt8), (1 : Int))) else ((vO kind).bind fun dN => if dN < out then (some (([] : List UInt8), (1 : Int))) else none))) (fun bI => if 0 ≠ 0 then (some (([] : List UInt8), (0 : Int))) else (if out < 1 then (some (([] : List UInt8), (1 : Int))) else ((vO kind).bind fun ja => if ja < out then (some (([] : List UInt8), (1 : Int))) else ((vP bI.1 bI.2.1 bI.2.2.1 bI.2.2.2.1 bI.2.2.2.2.1 bI.2.2.2.2.2.1 bI.2.2.2.2.2.2.1 bI.2.2.2.2.2.2.2.1 bI.2.2.2.2.2.2.2.2.1 bI.2.2.2.2.2.2.2.2.2.1 bu aA key last bI.2.2.2.2.2.2.2.2.2.2.1 false (0 : UInt64) (0 : UInt64) bI.2.2.2.2.2.2.2.2.2.2.2 (0 : UInt64) data).bind fun iO => (yA iO.1 iO.2.1 iO.2.2.1 iO.2.2.2.1 iO.2.2.2.2.1 iO.2.2.2.2.2.1 iO.2.2.2.2.2.2.1 iO.2.2.2.2.2.2.2.1 iO.2.2.2.2.2.2.2.2.1 iO.2.2.2.2.2.2.2.2.2.1 bu aA key iO.2.2.2.2.2.2.2.2.2.2.1 iO.2.2.2.2.2.2.2.2.2.2.2.1 iO.2.2.2.2.2.2.2.2.2.2.2.2.1 iO.2.2.2.2.2.2.2.2.2.2.2.2.2.1 iO.2.2.2.2.2.2.2.2.2.2.2.2.2.2.1 iO.2.2.2.2.2.2.2.2.2.2.2.2.2.2.2.1 iO.2.2.2.2.2.2.2.2.2.2.2.2.2.2.2.2).bind fun qw => (Ba qw.1 0 out).bind fun b => some (b, (0 : Int))))))) r_
noncomputable def n_ (a_ : List UInt8) (b : List UInt8) : Int → Option (Int ⊕ Bool)
  | i => if i < ((a_.length : Nat) : Int) then ((aF a_ i).bind fun aC => (aF b i).bind fun x_1 => if aC ≠ x_1 then (Option.map Sum.inr (some false)) else (some (.inl (aI (i + 1))))) else (Option.map Sum.inr (some true))
noncomputable def vT (a_ : List UInt8) (b : List UInt8) : Option Bool :=
  if ((a_.length : Nat) : Int) ≠ ((b.length : Nat) : Int) then (some false) else (aX (n_ a_ b) (0 : Int))
noncomputable def qF (s_ : List UInt8) : Option (List UInt8) :=
  some s_
noncomputable def yB (n : Int) : Option (List UInt8) :=
  if 0 < (aI (n - (aI (0 - ((0 : Nat) : Int))))) then ((UW ([] : List UInt8) (aI (n - (aI (0 - ((0 : Nat) : Int))))) (0 : UInt8) 1).bind fun b => (Ba b 0 ((0 : Nat) : Int)).bind fun b1 => qF b1) else (qF ([] : List UInt8))
noncomputable def zB (n : Int) : Option (List UInt8) :=
  if n < 0 then none else (yB n)
noncomputable def xx (aC : Int) (size1 : Int) : Option ((Int × Int) ⊕ (List UInt8)) :=
  some (.inl (size1, aI (aC + 1)))
noncomputable def xy (slices : List (List UInt8)) : (List UInt8 × Int) → Option ((List UInt8 × Int) ⊕ (List UInt8))
  | (OT, x_1) => if x_1 < ((slices.length : Nat) : Int) then ((aF slices x_1).bind fun b1 => (app OT b1 1).bind fun TP => some (.inl (TP, aI (x_1 + 1)))) else (Option.map Sum.inr (some OT))
noncomputable def xA (slices : List (List UInt8)) : (Int × Int) → Option ((Int × Int) ⊕ (List UInt8))
  | (size, aC) => if aC < ((slices.length : Nat) : Int) then ((aF slices aC).bind fun b => if (aI (size + ((b.length : Nat) : Int))) < 0 then none else (xx aC (aI (size + ((b.length : Nat) : Int))))) else (Option.map Sum.inr ((zB size).bind fun r_ => aX (xy slices) (r_, (0 : Int))))
noncomputable def JU (slices : List (List UInt8)) : Option (List UInt8) :=
  aX (xA slices) ((0 : Int), (0 : Int))
noncomputable def Jg (b : List UInt8) : (List (List UInt8) × Int) → Option ((List (List UInt8) × Int) ⊕ (List (List UInt8) × Int × Int))
  | (parts, at_) => if at_ < ((b.length : Nat) : Int) then ((mr b at_).bind fun r_ => if r_.2 ≠ 0 then (Option.map Sum.inr (some (([] : List (List UInt8)), at_, (4 : Int)))) else (if (UInt64.ofInt (aI (((b.length : Nat) : Int) - (aI (at_ + 8))))) < r_.1 then (Option.map Sum.inr (some (([] : List (List UInt8)), aI (at_ + 8), (4 : Int)))) else ((Ba b (aI (at_ + 8)) (aI ((aI (at_ + 8)) + (aI r_.1.toNat)))).bind fun b1 => (app ([] : List UInt8) b1 1).bind fun b2 => (app parts ([b2] : List (List UInt8)) 24).bind fun ZW => some (.inl (ZW, aI ((aI (at_ + 8)) + (aI r_.1.toNat))))))) else (Option.map Sum.inr (some (parts, (0 : Int), (0 : Int))))
noncomputable def Y7 (b : List UInt8) : Option (List (List UInt8) × Int × Int) :=
  if 16777216 < ((b.length : Nat) : Int) then (some (([] : List (List UInt8)), (0 : Int), (2 : Int))) else (aX (Jg b) (([] : List (List UInt8)), (0 : Int)))
noncomputable def uX (b : List UInt8) : Option (List UInt8) :=
  (app ([] : List UInt8) b 1).bind fun b1 => some b1
noncomputable def lT (aC : Int) (l1 : List (List UInt8)) (Ej : Int) (QE : UInt64) : Option ((List (List UInt8) × Int × UInt64 × Int) ⊕ (List (List UInt8) × Int)) :=
  some (.inl (l1, Ej, QE, aI (aC + 1)))
noncomputable def jZ (data : List UInt8) : (List (List UInt8) × Int × UInt64 × Int) → Option ((List (List UInt8) × Int × UInt64 × Int) ⊕ (List (List UInt8) × Int))
  | (l, from_, sum, aC) => if aC < ((data.length : Nat) : Int) then ((aF data aC).bind fun bY => if (((decide ((aI ((aI (aC + 1)) - from_)) = 1024)) || ((decide (64 ≤ (aI ((aI (aC + 1)) - from_)))) && (decide ((jR ((o_ sum ((1 : UInt64).toNat)) + (((UInt64.ofNat bY.toNat) + 1) * 11400714819323198485)) ((58 : UInt64).toNat)) = 0)))) || (decide (aC = (aI (((data.length : Nat) : Int) - 1))))) = true then ((Ba data from_ (aI (aC + 1))).bind fun b => (app ([] : List UInt8) b 1).bind fun b1 => (app l ([b1] : List (List UInt8)) 24).bind fun l2 => lT aC l2 (aI (aC + 1)) (0 : UInt64)) else (lT aC l from_ ((o_ sum ((1 : UInt64).toNat)) + (((UInt64.ofNat bY.toNat) + 1) * 11400714819323198485)))) else (Option.map Sum.inr (some (l, (0 : Int))))
noncomputable def oL (data : List UInt8) : Option (List (List UInt8) × Int) :=
  if 1048576 < ((data.length : Nat) : Int) then (some (([] : List (List UInt8)), (2 : Int))) else (aX (jZ data) (([] : List (List UInt8)), (0 : Int), (0 : UInt64), (0 : Int)))
noncomputable def lY (a_ : List UInt8) (b : List UInt8) : Option Bool :=
  (vT a_ b).bind fun r_ => some r_
noncomputable def wR  : Option Bool :=
  (oL ([(97 : UInt8), (98 : UInt8), (99 : UInt8)] : List UInt8)).bind fun r_ => if ((decide (r_.2 = 0)) && (decide (((r_.1.length : Nat) : Int) = 1))) = true then ((aF r_.1 (0 : Int)).bind fun b => (lY b ([(97 : UInt8), (98 : UInt8), (99 : UInt8)] : List UInt8)).bind fun aQ => some aQ) else (some false)
noncomputable def mZ  : Option Unit :=
  some ()
noncomputable def RJ (snap : List UInt8) (name : List UInt8) : Option (List UInt8) :=
  (mZ).bind fun r_ => some ([] : List UInt8)
noncomputable def RS (snap : List UInt8) : Option Unit :=
  (mZ).bind fun r_ => some ()
noncomputable def Qc  : Option Unit :=
  (mZ).bind fun r_ => some ()
noncomputable def Oj  : Option (List (List UInt8)) :=
  (mZ).bind fun r_ => some ([] : List (List UInt8))
noncomputable def QG  : Option (List UInt8) :=
  (mZ).bind fun r_ => some ([] : List UInt8)
noncomputable def wS (size : Int) : Option (Unit ⊕ (Int × Mp (List UInt8) × (Mp (Mp (Int × List UInt8))))) :=
  if ((decide (size < 1)) || (decide (64 < size))) = true then (some (Sum.inl ())) else (some (Sum.inr (size, ([] : Mp (List UInt8)), ([] : Mp (Mp (Int × List UInt8))))))
noncomputable def qG (l : List (List UInt8 × List UInt8)) : ((List (List UInt8 × List UInt8)) × (List (List UInt8 × List UInt8)) × Int) → Option (((List (List UInt8 × List UInt8)) × (List (List UInt8 × List UInt8)) × Int) ⊕ ((List (List UInt8 × List UInt8)) × (List (List UInt8 × List UInt8))))
  | (a_, b, aC) => if aC < ((l.length : Nat) : Int) then ((aF l aC).bind fun bY => (uX bY.2).bind fun r_ => (app a_ ([((bY.1 : List UInt8), r_)] : List (List UInt8 × List UInt8)) 40).bind fun a_1 => (app b ([((bY.1 : List UInt8), bY.2)] : List (List UInt8 × List UInt8)) 40).bind fun b1 => some (.inl (a_1, b1, aI (aC + 1)))) else (Option.map Sum.inr (some (a_, b)))
noncomputable def uj (l : List (List UInt8 × List UInt8)) : Option ((List (List UInt8 × List UInt8)) × (List (List UInt8 × List UInt8))) :=
  aX (qG l) (([] : List (List UInt8 × List UInt8)), ([] : List (List UInt8 × List UInt8)), (0 : Int))
noncomputable def cZ (aY : Int) (ah : Mp (List UInt8)) (aj : Mp (Mp (Int × List UInt8))) : Option Int :=
  some aY
noncomputable def mP (s_ : List UInt8) : Int → Option (Int ⊕ Bool)
  | aC => if aC < (s_.length : Int) then ((aF s_ aC).bind fun c => (gif (!(decide (c < 33))) (aF s_ aC)).bind fun c1 => if ((decide (c < 33)) || (decide ((126 : UInt8) < c1))) = true then (Option.map Sum.inr (some false)) else (some (.inl (aI (aC + 1))))) else (Option.map Sum.inr (some true))
noncomputable def lu (s_ : List UInt8) : Option Bool :=
  if ((decide ((s_.length : Int) < 1)) || (decide (64 < (s_.length : Int)))) = true then (some false) else (aX (mP s_) (0 : Int))
noncomputable def lJ (aY : Int) (ah : Mp (List UInt8)) (aj : Mp (Mp (Int × List UInt8))) (b : List UInt8) : Option (List UInt8 × Int) :=
  (lI (1 : Int) aY (0 : Int) (1 : Int) (1 : Int) (0 : UInt32) (0 : UInt64) (0 : UInt32) (0 : Int) (0 : Int) ([] : List UInt8) ([] : List UInt8) ([] : List UInt8) false aY b).bind fun r_ => some (r_.1, aY)
noncomputable def iU (kK : Int) (d2 : Int) (ZX : Mp (List UInt8)) (OU : List UInt8) : Option ((Int × Mp (List UInt8) × List UInt8 × Int) ⊕ ((Int × Mp (List UInt8) × (Mp (Int × List UInt8)) × Int) ⊕ (Int × Int × Mp (List UInt8) × (Mp (Mp (Int × List UInt8)))))) :=
  some (.inl (d2, ZX, OU, aI (kK + 1)))
noncomputable def jJ (ah : Mp (List UInt8)) (aj : Mp (Mp (Int × List UInt8))) (JV : Mp (List UInt8)) (e_ : List UInt8) (kK : Int) (b4 : List UInt8) (iO : (List UInt8 × Int)) (old : List UInt8) (is : Bool) : Option ((Int × Mp (List UInt8) × List UInt8 × Int) ⊕ ((Int × Mp (List UInt8) × (Mp (Int × List UInt8)) × Int) ⊕ (Int × Int × Mp (List UInt8) × (Mp (Mp (Int × List UInt8)))))) :=
  if (is && (decide (old ≠ b4))) = true then (Option.map Sum.inr (Option.map Sum.inr (some ((271 : Int), iO.2, ah, aj)))) else ((need (e_.length + iO.1.length ≤ 9223372036854775807)).bind fun u => iU kK iO.2 (dD JV iO.1 b4) (e_ ++ iO.1))
noncomputable def nT (ah : Mp (List UInt8)) (aj : Mp (Mp (Int × List UInt8))) (JV : Mp (List UInt8)) (e_ : List UInt8) (kK : Int) (b4 : List UInt8) (iO : (List UInt8 × Int)) (qw : List UInt8) : Option ((Int × Mp (List UInt8) × List UInt8 × Int) ⊕ ((Int × Mp (List UInt8) × (Mp (Int × List UInt8)) × Int) ⊕ (Int × Int × Mp (List UInt8) × (Mp (Mp (Int × List UInt8)))))) :=
  if qw ≠ b4 then (Option.map Sum.inr (Option.map Sum.inr (some ((271 : Int), iO.2, ah, aj)))) else ((need (e_.length + iO.1.length ≤ 9223372036854775807)).bind fun u0 => iU kK iO.2 (dD JV iO.1 b4) (e_ ++ iO.1))
noncomputable def iV (ah : Mp (List UInt8)) (aj : Mp (Mp (Int × List UInt8))) (DR : Mp (Int × List UInt8)) (iy : Int) (iR : List UInt8 × List UInt8) (ja : (List (List UInt8) × Int)) : (Int × Mp (List UInt8) × List UInt8 × Int) → Option ((Int × Mp (List UInt8) × List UInt8 × Int) ⊕ ((Int × Mp (List UInt8) × (Mp (Int × List UInt8)) × Int) ⊕ (Int × Int × Mp (List UInt8) × (Mp (Mp (Int × List UInt8))))))
  | (d1, JV, e_, kK) => if kK < ((ja.1.length : Nat) : Int) then ((aF ja.1 kK).bind fun b4 => (lJ d1 ah aj b4).bind fun iO => (Option.elim (aK ah iO.1) (Option.elim (aK JV iO.1) (jJ ah aj JV e_ kK b4 iO ([] : List UInt8) false) (fun nJ => jJ ah aj JV e_ kK b4 iO nJ true)) (fun qw => nT ah aj JV e_ kK b4 iO qw ))) else (Option.map Sum.inr (some (.inl (d1, JV, dD DR iR.1 (((iR.2.length : Nat) : Int), e_), aI (iy + 1)))))
noncomputable def iW  : (Mp (List UInt8)) → Ky × (List UInt8) → Option (Mp (List UInt8))
  | m_6, (key, lh) => some (dD m_6 key lh)
noncomputable def iY (ah : Mp (List UInt8)) (aj : Mp (Mp (Int × List UInt8))) (snap : List UInt8) (files : List (List UInt8 × List UInt8)) : (Int × Mp (List UInt8) × (Mp (Int × List UInt8)) × Int) → Option ((Int × Mp (List UInt8) × (Mp (Int × List UInt8)) × Int) ⊕ (Int × Int × Mp (List UInt8) × (Mp (Mp (Int × List UInt8)))))
  | (d, y8, DR, iy) => if iy < ((files.length : Nat) : Int) then ((aF files iy).bind fun iR => (oL iR.2).bind fun ja => aX (iV ah aj DR iy iR ja) (d, y8, ([] : List UInt8), (0 : Int))) else (Option.map Sum.inr ((lG (iW) ah y8).bind fun s_ => some ((0 : Int), d, s_, dD aj snap DR)))
noncomputable def iZ (ah : Mp (List UInt8)) (aj : Mp (Mp (Int × List UInt8))) (snap : List UInt8) (files : List (List UInt8 × List UInt8)) (r_ : Int) : (Mp Int × Int) → Option ((Mp Int × Int) ⊕ (Int × Int × Mp (List UInt8) × (Mp (Mp (Int × List UInt8)))))
  | (uY, aC) => if aC < ((files.length : Nat) : Int) then ((aF files aC).bind fun bY => (lu bY.1).bind fun dN => if (!dN) = true then (Option.map Sum.inr (some ((214 : Int), r_, ah, aj))) else (if 1048576 < ((bY.2.length : Nat) : Int) then (Option.map Sum.inr (some ((2 : Int), r_, ah, aj))) else (if ((aK uY bY.1).isSome) = true then (Option.map Sum.inr (some ((213 : Int), r_, ah, aj))) else (some (.inl (dD uY bY.1 aC, aI (aC + 1))))))) else (Option.map Sum.inr (aX (iY ah aj snap files) (r_, ([] : Mp (List UInt8)), ([] : Mp (Int × List UInt8)), (0 : Int))))
noncomputable def kS (aY : Int) (ah : Mp (List UInt8)) (aj : Mp (Mp (Int × List UInt8))) (snap : List UInt8) (files : List (List UInt8 × List UInt8)) : Option (Int × Int × Mp (List UInt8) × (Mp (Mp (Int × List UInt8)))) :=
  (cZ aY ah aj).bind fun r_ => (Option.elim (aK aj snap) ((lu snap).bind fun bI => if (!bI) = true then (some ((214 : Int), r_, ah, aj)) else (if ((decide (64 ≤ ((aj.length : Nat) : Int))) || (decide (256 < ((files.length : Nat) : Int)))) = true then (some ((2 : Int), r_, ah, aj)) else (aX (iZ ah aj snap files r_) (([] : Mp Int), (0 : Int))))) (fun aQ => (lu snap).bind fun Gf => if (!Gf) = true then (some ((214 : Int), r_, ah, aj)) else (some ((213 : Int), r_, ah, aj))))
noncomputable def dH (yC : Mp (Mp (Int × List UInt8))) : Option (List (List UInt8)) :=
  (need (yC.length * 16 ≤ 140737488355328)).bind fun u => some (xq (yC.map (·.1)))
noncomputable def nU (aY : Int) (ah : Mp (List UInt8)) (aj : Mp (Mp (Int × List UInt8))) : Option (List (List UInt8) × Int) :=
  (cZ aY ah aj).bind fun r_ => (dH aj).bind fun aQ => some (aQ, r_)
noncomputable def qg (yC : Mp (List UInt8)) : Option (List (List UInt8)) :=
  (need (yC.length * 16 ≤ 140737488355328)).bind fun u => some (xq (yC.map (·.1)))
noncomputable def ru (yC : Mp Int) : Option (List (List UInt8)) :=
  (need (yC.length * 16 ≤ 140737488355328)).bind fun u => some (xq (yC.map (·.1)))
noncomputable def uZ (w_ : UInt32) : Option (List UInt8) :=
  some ([UInt8.ofNat w_.toNat, UInt8.ofNat (iH w_ ((8 : UInt64).toNat)).toNat, UInt8.ofNat (iH w_ ((16 : UInt64).toNat)).toNat, UInt8.ofNat (iH w_ ((24 : UInt64).toNat)).toNat] : List UInt8)
noncomputable def mg (n : Int) : Option (List UInt8) :=
  (uZ (UInt32.ofInt n)).bind fun r_ => some r_
noncomputable def lC (yC : Mp (Int × List UInt8)) : Option (List (List UInt8)) :=
  (need (yC.length * 16 ≤ 140737488355328)).bind fun u => some (xq (yC.map (·.1)))
noncomputable def jo (r_ : Int) (iy : Int) (qw : Mp (Int × List UInt8)) (ug : (List (List UInt8))) : (List UInt8 × Int) → Option ((List UInt8 × Int) ⊕ ((List UInt8 × Int) ⊕ (List UInt8 × Int)))
  | (b10, kK) => if kK < ((ug.length : Nat) : Int) then ((aF ug kK).bind fun lh => (app b10 ([UInt8.ofInt (lh.length : Int)] : List UInt8) 1).bind fun b11 => (app b11 lh 1).bind fun b12 => (some ((aK qw lh).getD ((0 : Int), ([] : List UInt8)))).bind fun e_ => (mg e_.1).bind fun Gf => (app b12 Gf 1).bind fun b13 => (some ((aK qw lh).getD ((0 : Int), ([] : List UInt8)))).bind fun OU => (need (r_ ≠ 0)).bind fun u => (mg (aI (Int.tdiv (OU.2.length : Int) r_))).bind fun Ag => (app b13 Ag 1).bind fun b14 => (some ((aK qw lh).getD ((0 : Int), ([] : List UInt8)))).bind fun Xt => (app b14 Xt.2 1).bind fun b15 => some (.inl (b15, aI (kK + 1)))) else (Option.map Sum.inr (some (.inl (b10, aI (iy + 1)))))
noncomputable def jq (aj : Mp (Mp (Int × List UInt8))) (r_ : Int) (iO : (List (List UInt8))) : (List UInt8 × Int) → Option ((List UInt8 × Int) ⊕ (List UInt8 × Int))
  | (b5, iy) => if iy < ((iO.length : Nat) : Int) then ((aF iO iy).bind fun iR => (app b5 ([UInt8.ofInt (iR.length : Int)] : List UInt8) 1).bind fun b6 => (app b6 iR 1).bind fun b7 => (Option.elim (aK aj iR) none (fun qw => (mg ((qw.length : Nat) : Int)).bind fun nJ => (app b7 nJ 1).bind fun b9 => (lC qw).bind fun ug => aX (jo r_ iy qw ug) (b9, (0 : Int))))) else (Option.map Sum.inr (some (b5, r_)))
noncomputable def jr (ah : Mp (List UInt8)) (aj : Mp (Mp (Int × List UInt8))) (r_ : Int) (bI : (List (List UInt8))) : (List UInt8 × Int) → Option ((List UInt8 × Int) ⊕ (List UInt8 × Int))
  | (b1, aC) => if aC < ((bI.length : Nat) : Int) then ((aF bI aC).bind fun bY => (Option.elim (aK ah bY) none (fun dN => (app b1 ([UInt8.ofInt ((dN.length : Nat) : Int), UInt8.ofInt (J4 .i64 ((dN.length : Nat) : Int) ((8 : UInt64).toNat))] : List UInt8) 1).bind fun b2 => (app b2 dN 1).bind fun b3 => some (.inl (b3, aI (aC + 1)))))) else (Option.map Sum.inr ((mg ((aj.length : Nat) : Int)).bind fun ja => (app b1 ja 1).bind fun b4 => (dH aj).bind fun iO => aX (jq aj r_ iO) (b4, (0 : Int))))
noncomputable def dX (aY : Int) (ah : Mp (List UInt8)) (aj : Mp (Mp (Int × List UInt8))) : Option (List UInt8 × Int) :=
  (cZ aY ah aj).bind fun r_ => (mg ((ah.length : Nat) : Int)).bind fun aQ => (app ([(68 : UInt8), (81 : UInt8), (1 : UInt8), UInt8.ofInt r_] : List UInt8) aQ 1).bind fun b => (qg ah).bind fun bI => aX (jr ah aj r_ bI) (b, (0 : Int))
noncomputable def oD (aY : Int) (ah : Mp (List UInt8)) (aj : Mp (Mp (Int × List UInt8))) (snap : List UInt8) : Option (Int × Int × (Mp (Mp (Int × List UInt8)))) :=
  (cZ aY ah aj).bind fun r_ => (Option.elim (aK aj snap) (some ((272 : Int), r_, aj)) (fun aQ => some ((0 : Int), r_, uC aj snap)))
noncomputable def eG (aY : Int) : (List UInt8 × List (List UInt8)) → Option ((List UInt8 × List (List UInt8)) ⊕ (List (List UInt8) × Int))
  | (yR, l) => if 0 < (yR.length : Int) then ((Ba yR 0 aY).bind fun Nb => (app l ([Nb] : List (List UInt8)) 16).bind fun l1 => (Ba yR aY (yR.length : Int)).bind fun QH => some (.inl (QH, l1))) else (Option.map Sum.inr (some (l, aY)))
noncomputable def eX (aY : Int) (ah : Mp (List UInt8)) (aj : Mp (Mp (Int × List UInt8))) (s_ : List UInt8) : Option (List (List UInt8) × Int) :=
  aX (eG aY) (s_, ([] : List (List UInt8)))
noncomputable def dQ (bI : (List (List UInt8) × Int)) : (Mp Int × Int) → Option ((Mp Int × Int) ⊕ (Int × Mp Int))
  | (y8, bY) => if bY < ((bI.1.length : Nat) : Int) then ((aF bI.1 bY).bind fun iy => some (.inl (dD y8 iy (aI (((aK y8 iy).getD (0 : Int)) + 1)), aI (bY + 1)))) else (Option.map Sum.inr (some (bI.2, y8)))
noncomputable def dU (ah : Mp (List UInt8)) (aj : Mp (Mp (Int × List UInt8))) : (Int × Mp Int) → Ky × (Int × List UInt8) → Option (Int × Mp Int)
  | (d1, vX), (ZY, x_1) => (eX d1 ah aj x_1.2).bind fun bI => aX (dQ bI) (vX, (0 : Int))
noncomputable def jv (ah : Mp (List UInt8)) (aj : Mp (Mp (Int × List UInt8))) : (Int × Mp Int) → Ky × (Mp (Int × List UInt8)) → Option (Int × Mp Int)
  | (d, uY), (key, aC) => (lG (dU ah aj) (d, uY) aC).bind fun yR => some (yR.1, yR.2)
noncomputable def kT (aY : Int) (ah : Mp (List UInt8)) (aj : Mp (Mp (Int × List UInt8))) : Option (Mp Int × Int) :=
  (lG (jv ah aj) (aY, ([] : Mp Int)) aj).bind fun s_ => some (s_.2, s_.1)
noncomputable def fU (aQ : (Mp Int × Int)) : (Mp (List UInt8) × Int) → Ky × (List UInt8) → Option (Mp (List UInt8) × Int)
  | (uY, n), (key, aC) => if ((aK aQ.1 key).getD (0 : Int)) = 0 then (some (uC uY key, aI (n + 1))) else (some (uY, n))
noncomputable def lK (aY : Int) (ah : Mp (List UInt8)) (aj : Mp (Mp (Int × List UInt8))) : Option (Int × Int × Mp (List UInt8)) :=
  (cZ aY ah aj).bind fun r_ => (kT r_ ah aj).bind fun aQ => (lG (fU aQ) (ah, (0 : Int)) ah).bind fun s_ => some (s_.2, aQ.2, s_.1)
noncomputable def iE (wU : List UInt8) (eY : Bool) (iw : Bool) (n : Int) : Option (List UInt8 × List UInt8 × Bool × Bool) :=
  if (eY || (decide (((wU.length : Nat) : Int) < n))) = true then (some (([] : List UInt8), wU, true, iw)) else ((Ba wU 0 n).bind fun b => (Ba wU n ((wU.length : Nat) : Int)).bind fun b1 => some (b, b1, eY, iw))
noncomputable def jw (r_ : (List UInt8 × List UInt8 × Bool × Bool)) : (Int × Int) → Option ((Int × Int) ⊕ (Int × List UInt8 × Bool × Bool))
  | (n0, aC) => if aC < ((r_.1.length : Nat) : Int) then ((aF r_.1 aC).bind fun iR => (need (0 ≤ aI (8 * aC))).bind fun u => some (.inl (YQ .i64 n0 (LQ .i64 (iR.toNat : Int) (Int.toNat (aI (8 * aC)))), aI (aC + 1)))) else (Option.map Sum.inr (some (n0, r_.2.1, r_.2.2.1, r_.2.2.2)))
noncomputable def jH (wU : List UInt8) (eY : Bool) (iw : Bool) (size : Int) : Option (Int × List UInt8 × Bool × Bool) :=
  (iE wU eY iw size).bind fun r_ => aX (jw r_) ((0 : Int), (0 : Int))
noncomputable def iF (wU : List UInt8) (eY : Bool) (iw : Bool) (ok : Bool) : Option (List UInt8 × Bool × Bool) :=
  if (!ok) = true then (some (wU, eY, true)) else (some (wU, eY, iw))
noncomputable def gI (wU : List UInt8) (eY : Bool) (iw : Bool) (size : Int) : Option (Int × List UInt8 × Bool × Bool) :=
  (jH wU eY iw size).bind fun r_ => if ((r_.2.1.length : Nat) : Int) < r_.1 then (some ((0 : Int), r_.2.1, true, r_.2.2.2)) else (some (r_.1, r_.2.1, r_.2.2.1, r_.2.2.2))
noncomputable def jK (aY : Int) (ah : Mp (List UInt8)) (aj : Mp (Option (Mp (Int × List UInt8)))) (b : List UInt8) : Option (List UInt8 × Int) :=
  (lI (1 : Int) aY (0 : Int) (1 : Int) (1 : Int) (0 : UInt32) (0 : UInt64) (0 : UInt32) (0 : Int) (0 : Int) ([] : List UInt8) ([] : List UInt8) ([] : List UInt8) false aY b).bind fun r_ => some (r_.1, aY)
noncomputable def nD (aC : Int) (p3 : List UInt8) (p4 : Bool) (p5 : Bool) (d1 : Int) (vX : Mp (List UInt8)) (Jh : List UInt8) : Option ((List UInt8 × Bool × Bool × Int × Mp (List UInt8) × List UInt8 × Int) ⊕ (List UInt8 × Bool × Bool × Int × Mp (List UInt8))) :=
  some (.inl (p3, p4, p5, d1, vX, Jh, aI (aC + 1)))
noncomputable def kN (aC : Int) (p6 : List UInt8) (p7 : Bool) (p8 : Bool) (d2 : Int) (y8 : Mp (List UInt8)) (last2 : List UInt8) : Option ((List UInt8 × Bool × Bool × Int × Mp (List UInt8) × List UInt8 × Int) ⊕ (List UInt8 × Bool × Bool × Int × Mp (List UInt8))) :=
  nD aC p6 p7 p8 d2 y8 last2
noncomputable def kP (aj : Mp (Option (Mp (Int × List UInt8)))) (r_ : (Int × List UInt8 × Bool × Bool)) : (List UInt8 × Bool × Bool × Int × Mp (List UInt8) × List UInt8 × Int) → Option ((List UInt8 × Bool × Bool × Int × Mp (List UInt8) × List UInt8 × Int) ⊕ (List UInt8 × Bool × Bool × Int × Mp (List UInt8)))
  | (p, p1, p2, d, uY, last, aC) => if aC < r_.1 then (if p1 = true then (Option.map Sum.inr (some (p, p1, p2, d, uY))) else ((gI p p1 p2 (2 : Int)).bind fun aQ => (iE aQ.2.1 aQ.2.2.1 aQ.2.2.2 aQ.1).bind fun bI => (app ([] : List UInt8) bI.1 1).bind fun b => (iF bI.2.1 bI.2.2.1 bI.2.2.2 ((decide (1 ≤ ((0 + bI.1.length : Nat) : Int))) && (decide (((0 + bI.1.length : Nat) : Int) ≤ 1024)))).bind fun dN => if (dN.2.2 || dN.2.1) = true then (kN aC dN.1 dN.2.1 dN.2.2 d uY last) else ((jK d uY aj b).bind fun ja => (iF dN.1 dN.2.1 dN.2.2 ((decide (aC = 0)) || (!(Op.bytesLess ja.1 last || decide (ja.1 = last))))).bind fun iO => kN aC iO.1 iO.2.1 iO.2.2 ja.2 (dD uY ja.1 b) ja.1))) else (Option.map Sum.inr (some (p, p1, p2, d, uY)))
noncomputable def ng (wU : List UInt8) (eY : Bool) (iw : Bool) (aY : Int) (ah : Mp (List UInt8)) (aj : Mp (Option (Mp (Int × List UInt8)))) : Option (List UInt8 × Bool × Bool × Int × Mp (List UInt8)) :=
  (gI wU eY iw (4 : Int)).bind fun r_ => aX (kP aj r_) (r_.2.1, r_.2.2.1, r_.2.2.2, aY, ah, ([] : List UInt8), (0 : Int))
noncomputable def lL (size : Int) (r_ : (Int × List UInt8 × Bool × Bool)) : (List UInt8 × Bool × Bool × (Mp (Int × List UInt8)) × List UInt8 × Int) → Option ((List UInt8 × Bool × Bool × (Mp (Int × List UInt8)) × List UInt8 × Int) ⊕ ((List UInt8 × Bool × Bool) ⊕ ((Mp (Int × List UInt8)) × List UInt8 × Bool × Bool)))
  | (p, p1, p2, uY, last, aC) => if aC < r_.1 then (if p1 = true then (Option.map Sum.inr (some (Sum.inl (p, p1, p2)))) else ((gI p p1 p2 (1 : Int)).bind fun bI => (iE bI.2.1 bI.2.2.1 bI.2.2.2 bI.1).bind fun dN => (jH dN.2.1 dN.2.2.1 dN.2.2.2 (4 : Int)).bind fun ja => (lu dN.1).bind fun iO => (iF ja.2.1 ja.2.2.1 ja.2.2.2 ((iO && ((decide (aC = 0)) || (!(Op.bytesLess dN.1 last || decide (dN.1 = last))))) && (decide (ja.1 ≤ 1048576)))).bind fun qw => (gI qw.1 qw.2.1 qw.2.2 (4 : Int)).bind fun nJ => (iE nJ.2.1 nJ.2.2.1 nJ.2.2.2 (aI (nJ.1 * size))).bind fun ug => some (.inl (ug.2.1, ug.2.2.1, ug.2.2.2, dD uY dN.1 (ja.1, ug.1), dN.1, aI (aC + 1))))) else (Option.map Sum.inr (some (Sum.inr (uY, p, p1, p2))))
noncomputable def nV (wU : List UInt8) (eY : Bool) (iw : Bool) (size : Int) : Option ((List UInt8 × Bool × Bool) ⊕ ((Mp (Int × List UInt8)) × List UInt8 × Bool × Bool)) :=
  (gI wU eY iw (4 : Int)).bind fun r_ => (iF r_.2.1 r_.2.2.1 r_.2.2.2 (decide (r_.1 ≤ 256))).bind fun aQ => aX (lL size r_) (aQ.1, aQ.2.1, aQ.2.2, ([] : Mp (Int × List UInt8)), ([] : List UInt8), (0 : Int))
noncomputable def sK (dN : (List UInt8 × Bool × Bool × Int × Mp (List UInt8))) (p : List UInt8) (p1 : Bool) (p2 : Bool) (uY : Mp (Option (Mp (Int × List UInt8)))) : Option (Int ⊕ (Int × Mp (List UInt8) × (Mp (Mp (Int × List UInt8))))) :=
  if p1 = true then (some (Sum.inl (3 : Int))) else (if 0 < ((p.length : Nat) : Int) then (some (Sum.inl (9 : Int))) else (if p2 = true then (some (Sum.inl (274 : Int))) else ((need (uY.all (fun p => p.2.isSome) = true)).bind fun u => some (Sum.inr (dN.2.2.2.1, dN.2.2.2.2, uY.map (fun p => (p.1, p.2.getD [])))))))
noncomputable def pJ (dN : (List UInt8 × Bool × Bool × Int × Mp (List UInt8))) (p3 : List UInt8) (p4 : Bool) (p5 : Bool) (y8 : Mp (Option (Mp (Int × List UInt8)))) : Option (Int ⊕ (Int × Mp (List UInt8) × (Mp (Mp (Int × List UInt8))))) :=
  sK dN p3 p4 p5 y8
noncomputable def pK (aQ : (Int × List UInt8 × Bool × Bool)) (dN : (List UInt8 × Bool × Bool × Int × Mp (List UInt8))) (ja : (Int × List UInt8 × Bool × Bool)) : (List UInt8 × Bool × Bool × (Mp (Option (Mp (Int × List UInt8)))) × List UInt8 × Int) → Option ((List UInt8 × Bool × Bool × (Mp (Option (Mp (Int × List UInt8)))) × List UInt8 × Int) ⊕ (Int ⊕ (Int × Mp (List UInt8) × (Mp (Mp (Int × List UInt8))))))
  | (p6, p7, p8, DR, last, aC) => if aC < ja.1 then (if p7 = true then (Option.map Sum.inr (pJ dN p6 p7 p8 DR)) else ((gI p6 p7 p8 (1 : Int)).bind fun qw => (iE qw.2.1 qw.2.2.1 qw.2.2.2 qw.1).bind fun nJ => (lu nJ.1).bind fun ug => (iF nJ.2.1 nJ.2.2.1 nJ.2.2.2 (ug && ((decide (aC = 0)) || (!(Op.bytesLess nJ.1 last || decide (nJ.1 = last)))))).bind fun Gf => (nV Gf.1 Gf.2.1 Gf.2.2 aQ.1).bind fun Ag => (Sum.elim (fun zC => some (.inl (zC.1, zC.2.1, zC.2.2, dD DR nJ.1 Option.none, nJ.1, aI (aC + 1)))) (fun rQ => some (.inl (rQ.2.1, rQ.2.2.1, rQ.2.2.2, dD DR nJ.1 (Option.some rQ.1), nJ.1, aI (aC + 1))))) Ag)) else (Option.map Sum.inr (pJ dN p6 p7 p8 DR))
noncomputable def u_ (b : List UInt8) : Option (Int ⊕ (Int × Mp (List UInt8) × (Mp (Mp (Int × List UInt8))))) :=
  (iE b false false (3 : Int)).bind fun r_ => (jH r_.2.1 r_.2.2.1 r_.2.2.2 (1 : Int)).bind fun aQ => (iF aQ.2.1 aQ.2.2.1 aQ.2.2.2 (((decide (r_.1 = ([68, 81, 1] : List UInt8))) && (decide (1 ≤ aQ.1))) && (decide (aQ.1 ≤ 64)))).bind fun bI => (ng bI.1 bI.2.1 bI.2.2 aQ.1 ([] : Mp (List UInt8)) ([] : Mp (Option (Mp (Int × List UInt8))))).bind fun dN => (gI dN.1 dN.2.1 dN.2.2.1 (4 : Int)).bind fun ja => (iF ja.2.1 ja.2.2.1 ja.2.2.2 (decide (ja.1 ≤ 64))).bind fun iO => aX (pK aQ dN ja) (iO.1, iO.2.1, iO.2.2, ([] : Mp (Option (Mp (Int × List UInt8)))), ([] : List UInt8), (0 : Int))
noncomputable def lU (aY : Int) : (List UInt8 × List (List UInt8)) → Option ((List UInt8 × List (List UInt8)) ⊕ (List (List UInt8) × Int))
  | (yR, l) => if 0 < (yR.length : Int) then ((Ba yR 0 aY).bind fun Nb => (app l ([Nb] : List (List UInt8)) 16).bind fun l1 => (Ba yR aY (yR.length : Int)).bind fun QH => some (.inl (QH, l1))) else (Option.map Sum.inr (some (l, aY)))
noncomputable def nX (aY : Int) (ah : Mp (List UInt8)) (aj : Mp (Mp (Int × List UInt8))) (s_ : List UInt8) : Option (List (List UInt8) × Int) :=
  aX (lU aY) (s_, ([] : List (List UInt8)))
noncomputable def lM (ah : Mp (List UInt8)) (bI : (List (List UInt8) × Int)) : (List UInt8 × Int) → Option ((List UInt8 × Int) ⊕ (List UInt8 × Int × Int))
  | (b1, aC) => if aC < ((bI.1.length : Nat) : Int) then ((aF bI.1 aC).bind fun iy => (Option.elim (aK ah iy) (Option.map Sum.inr (some (([] : List UInt8), (270 : Int), bI.2))) (fun dN => (app b1 dN 1).bind fun b2 => some (.inl (b2, aI (aC + 1)))))) else (Option.map Sum.inr (some (b1, (0 : Int), bI.2)))
noncomputable def kU (aY : Int) (ah : Mp (List UInt8)) (aj : Mp (Mp (Int × List UInt8))) (snap : List UInt8) (name : List UInt8) : Option (List UInt8 × Int × Int) :=
  (cZ aY ah aj).bind fun r_ => (Option.elim (aK aj snap) (some (([] : List UInt8), (272 : Int), r_)) (fun aQ => (some ((aK aQ name).getD ((0 : Int), ([] : List UInt8)))).bind fun e_ => if (!((aK aQ name).isSome)) = true then (some (([] : List UInt8), (273 : Int), r_)) else ((nX r_ ah aj e_.2).bind fun bI => aX (lM ah bI) (([] : List UInt8), (0 : Int)))))
noncomputable def jE (aC : Int) (l1 : List (List UInt8)) : Option ((List (List UInt8) × Int) ⊕ (List (List UInt8) × Int)) :=
  some (.inl (l1, aI (aC + 1)))
noncomputable def jF (ah : Mp (List UInt8)) (aQ : (Mp Int × Int)) (bI : (List (List UInt8))) : (List (List UInt8) × Int) → Option ((List (List UInt8) × Int) ⊕ (List (List UInt8) × Int))
  | (l, aC) => if aC < ((bI.length : Nat) : Int) then ((aF bI aC).bind fun bY => (Option.elim (aK ah bY) ((need (bY.length ≤ 140737488355328)).bind fun u => (app l ([bY] : List (List UInt8)) 24).bind fun l2 => jE aC l2) (fun dN => jE aC l))) else (Option.map Sum.inr (some (l, aQ.2)))
noncomputable def j_ (aY : Int) (ah : Mp (List UInt8)) (aj : Mp (Mp (Int × List UInt8))) : Option (List (List UInt8) × Int) :=
  (cZ aY ah aj).bind fun r_ => (kT r_ ah aj).bind fun aQ => (ru aQ.1).bind fun bI => aX (jF ah aQ bI) (([] : List (List UInt8)), (0 : Int))
noncomputable def l_ (one : List (List UInt8 × List UInt8)) (m_ : Mp (List UInt8)) (vX : Mp (Mp (Int × List UInt8))) (Ji : Int × Mp (List UInt8) × (Mp (Mp (Int × List UInt8)))) : (Int × Int × Int) → Option ((Int × Int × Int) ⊕ Bool)
  | (d1, c11, aC) => if aC < ((one.length : Nat) : Int) then ((aF one aC).bind fun x_1 => (kU d1 m_ vX ([111, 110, 101] : List UInt8) x_1.1).bind fun Gv => (kU c11 Ji.2.1 Ji.2.2 ([111, 110, 101] : List UInt8) x_1.1).bind fun Gw => if ((decide (Gv.2.1 ≠ 0)) || (decide (Gw.2.1 ≠ 0))) = true then (Option.map Sum.inr (some false)) else ((lY Gv.1 x_1.2).bind fun Vo => if (!Vo) = true then (Option.map Sum.inr (some false)) else ((lY Gw.1 x_1.2).bind fun Vp => if (!Vp) = true then (Option.map Sum.inr (some false)) else (some (.inl (Gv.2.2, Gw.2.2, aI (aC + 1))))))) else (Option.map Sum.inr ((j_ d1 m_ vX).bind fun Vq => some (decide (((Vq.1.length : Nat) : Int) = 0))))
noncomputable def kH (one : List (List UInt8 × List UInt8)) (d : Int) (m_ : Mp (List UInt8)) (vX : Mp (Mp (Int × List UInt8))) : Option Bool :=
  (dX d m_ vX).bind fun TQ => (u_ TQ.1).bind fun ZZ => (Sum.elim (fun Z4 => some false) (fun Ji => if 0 ≠ 0 then (some false) else (aX (l_ one m_ vX Ji) (TQ.2, Ji.1, (0 : Int))))) ZZ
noncomputable def ry (size : UInt8) (one : List (List UInt8 × List UInt8)) (two : List (List UInt8 × List UInt8)) : Option Bool :=
  (wR).bind fun r_ => if (!r_) = true then (some false) else ((wS (aI (1 + ((size % 64).toNat : Int)))).bind fun aQ => (Sum.elim (fun bI => some false) (fun dN => if 0 ≠ 0 then (some false) else ((uj one).bind fun ja => (uj two).bind fun iO => (dX dN.1 dN.2.1 dN.2.2).bind fun qw => (kS qw.2 dN.2.1 dN.2.2 ([111, 110, 101] : List UInt8) ja.1).bind fun nJ => if nJ.1 ≠ 0 then ((dX nJ.2.1 nJ.2.2.1 nJ.2.2.2).bind fun ug => (lY ug.1 qw.1).bind fun Gf => if Gf = true then ((nU ug.2 nJ.2.2.1 nJ.2.2.2).bind fun Ag => some (decide (((Ag.1.length : Nat) : Int) = 0))) else (some false)) else ((dX nJ.2.1 nJ.2.2.1 nJ.2.2.2).bind fun zC => (kS zC.2 nJ.2.2.1 nJ.2.2.2 ([116, 119, 111] : List UInt8) iO.1).bind fun rQ => if rQ.1 ≠ 0 then ((dX rQ.2.1 rQ.2.2.1 rQ.2.2.2).bind fun Vr => (lY Vr.1 zC.1).bind fun Vs => if (!Vs) = true then (some false) else (kH one Vr.2 rQ.2.2.1 rQ.2.2.2)) else ((oD rQ.2.1 rQ.2.2.1 rQ.2.2.2 ([116, 119, 111] : List UInt8)).bind fun Ko => if Ko.1 ≠ 0 then (some false) else ((lK Ko.2.1 rQ.2.2.1 Ko.2.2).bind fun Nc => if Nc.1 < 0 then (some false) else ((dX Nc.2.1 Nc.2.2 Ko.2.2).bind fun Vt => (lY Vt.1 zC.1).bind fun Vu => if (!Vu) = true then (some false) else (kH one Vt.2 Nc.2.2 Ko.2.2)))))))) aQ)
end Go.Sx
namespace Go.Sx
open Go.RowKit
set_option linter.unusedVariables false
variable {δ σ : Type}
theorem yZ {a b : Ky} (h : a < b) : ¬ b < a := fun h2 => List.lt_irrefl a (List.lt_trans h h2)
theorem Fp {a b : Ky} (h : a < b) : a ≠ b := fun e => List.lt_irrefl b (e ▸ h)
theorem Fq {k1 k2 : Ky} (h : k1 < k2) (v1 v2 : δ) : ∀ m : Mp δ, dD (dD m k1 v1) k2 v2 = dD (dD m k2 v2) k1 v1 := by
  have hne : k1 ≠ k2 := Fp h
  have hne2 : k2 ≠ k1 := fun e => hne e.symm
  have hn : ¬ k2 < k1 := yZ h
  intro m
  induction m with
  | nil => simp [dD, h, hne, hne2, hn]
  | cons p r ih =>
    rcases MO k1 p.1 with h1 | h1 | h1
    · have e1 : k1 ≠ p.1 := Fp h1
      have lhs : dD (p :: r) k1 v1 = (k1, v1) :: p :: r := by simp [dD, e1, h1]
      rw [lhs]
      have : dD ((k1, v1) :: p :: r) k2 v2 = (k1, v1) :: dD (p :: r) k2 v2 := by
        rw [dD]
        simp [hne2, hn]
      rw [this]
      rcases MO k2 p.1 with h2 | h2 | h2
      · have e2 : k2 ≠ p.1 := Fp h2
        have : dD (p :: r) k2 v2 = (k2, v2) :: p :: r := by simp [dD, e2, h2]
        rw [this]; simp [dD, hne, h]
      · have : dD (p :: r) k2 v2 = (k2, v2) :: r := by simp [dD, h2]
        rw [this]; simp [dD, hne, h]
      · have e2 : k2 ≠ p.1 := fun e => Fp h2 e.symm
        have : dD (p :: r) k2 v2 = p :: dD r k2 v2 := by simp [dD, e2, yZ h2]
        rw [this]; simp [dD, e1, h1]
    · have lhs : dD (p :: r) k1 v1 = (k1, v1) :: r := by simp [dD, h1]
      rw [lhs]
      have h2 : p.1 < k2 := h1 ▸ h
      have e2 : k2 ≠ p.1 := fun e => Fp h2 e.symm
      have : dD (p :: r) k2 v2 = p :: dD r k2 v2 := by simp [dD, e2, yZ h2]
      rw [this]
      simp [dD, h1, e2, yZ h2]
    · have e1 : k1 ≠ p.1 := fun e => Fp h1 e.symm
      have h2 : p.1 < k2 := List.lt_trans h1 h
      have e2 : k2 ≠ p.1 := fun e => Fp h2 e.symm
      have lhs : dD (p :: r) k1 v1 = p :: dD r k1 v1 := by simp [dD, e1, yZ h1]
      have rhs : dD (p :: r) k2 v2 = p :: dD r k2 v2 := by simp [dD, e2, yZ h2]
      rw [lhs, rhs]
      simp [dD, e1, e2, yZ h1, yZ h2, ih]
theorem Ld {k1 k2 : Ky} (h : k1 ≠ k2) (v1 v2 : δ) (m : Mp δ) : dD (dD m k1 v1) k2 v2 = dD (dD m k2 v2) k1 v1 := by
  rcases MO k1 k2 with h1 | h1 | h1
  · exact Fq h1 v1 v2 m
  · exact absurd h1 h
  · exact (Fq h1 v2 v1 m).symm
theorem wo {k k' : Ky} (h : k ≠ k') (v : δ) : ∀ m : Mp δ, aK (dD m k v) k' = aK m k' := by
  intro m
  induction m with
  | nil => simp [dD, aK, h]
  | cons p r ih =>
    unfold dD
    by_cases h1 : k = p.1
    · rw [if_pos h1]; simp [aK, h, h1 ▸ h]
    · rw [if_neg h1]
      by_cases h2 : k < p.1
      · rw [if_pos h2]; rw [aK]; simp [h]
      · rw [if_neg h2]; rw [aK, aK]; simp [ih]
theorem XP (a : Int) : aI a = if a % 18446744073709551616 ≥ 9223372036854775808 then a % 18446744073709551616 - 18446744073709551616 else a % 18446744073709551616 := by
  have e1 : (2 : Int) ^ 64 = 18446744073709551616 := rfl
  have e2 : (2 : Int) ^ (64 - 1) = 9223372036854775808 := rfl
  simp only [aI, IntKind.wrap, IntKind.signed, IntKind.bits, Bool.true_and]
  by_cases h : a % 18446744073709551616 ≥ 9223372036854775808
  · rw [if_pos h, if_pos]
    · rfl
    · exact decide_eq_true h
  · rw [if_neg h, if_neg]
    · rfl
    · intro h2; exact h (of_decide_eq_true h2)
end Go.Sx
namespace Go.Sx
open Go.RowKit
set_option linter.unusedVariables false
theorem AZ : Comm iW := by
  rintro s ⟨k1, v1⟩ ⟨k2, v2⟩ h
  simp only [iW, Option.bind_some]
  rw [Ld h]
end Go.Sx
namespace Go.Sx
open Go.RowKit
set_option linter.unusedVariables false
set_option linter.unusedSimpArgs false
section
variable {σ ε ρ δ : Type}
theorem OV {f : σ → Option (σ ⊕ ρ)} {s : σ} (h : f s = none) : aX f s = none := by
  cases hw : aX f s with
  | none => rfl
  | some r =>
    obtain ⟨k, hk⟩ := tJ.1 hw
    cases k with
    | zero => cases hk
    | succ k => simp [runK, h] at hk
def RU (f : σ → ε → Option σ) : Prop := ∀ s a b, (f s a).bind (fun s' => f s' b) = (f s b).bind (fun s' => f s' a)
theorem RU.comm {f : σ → Ky × δ → Option σ} (h : RU f) : Comm f := fun s a b _ => h s a b
theorem OW {f : σ → ε → Option σ} (hc : RU f) {l l' : List ε} (hp : l.Perm l') : ∀ s, lG f s l = lG f s l' := by
  induction hp with
  | nil => intro s; rfl
  | cons x _ ih => intro s; simp only [lG]; exact congrArg _ (funext fun s' => ih s')
  | swap x y l =>
    intro s
    simp only [lG]
    rw [← Option.bind_assoc, ← Option.bind_assoc, hc s y x]
  | trans _ _ ih1 ih2 => intro s; rw [ih1, ih2]
theorem Le {f : σ → ε → Option σ} (l l' : List ε) : ∀ s, lG f s (l ++ l') = (lG f s l).bind fun s' => lG f s' l' := by
  induction l with
  | nil => intro s; rfl
  | cons x l ih => intro s; simp only [List.cons_append, lG, Option.bind_assoc]; exact congrArg _ (funext fun s' => ih s')
theorem TR (k1 k2 : Ky) : ∀ m : Mp δ, uC (uC m k1) k2 = uC (uC m k2) k1 := by
  intro m
  by_cases h : k1 = k2
  · rw [h]
  induction m with
  | nil => rfl
  | cons p r ih =>
    by_cases h1 : p.1 = k1
    · have h2 : p.1 ≠ k2 := fun e => h (h1.symm.trans e)
      simp [uC, h1, h2, h]
    · by_cases h2 : p.1 = k2
      · have h3 : k2 ≠ k1 := fun e => h e.symm
        simp [uC, h1, h2, h3]
      · simp [uC, h1, h2, ih]
end
def inc (m : Mp Int) (x : Ky) : Mp Int := dD m x (aI (((aK m x).getD (0 : Int)) + 1))
theorem Vw (m : Mp Int) (x y : Ky) : inc (inc m x) y = inc (inc m y) x := by
  by_cases h : x = y
  · rw [h]
  · unfold inc
    rw [wo h, wo (fun e => h e.symm), Ld h]
theorem Vx (l : List Ky) : ∀ (m : Mp Int) (x : Ky), l.foldl inc (inc m x) = inc (l.foldl inc m) x := by
  induction l with
  | nil => intro m x; rfl
  | cons y l ih => intro m x; rw [List.foldl_cons, Vw, ih]; rfl
theorem TS (l l' : List Ky) : ∀ m : Mp Int, l'.foldl inc (l.foldl inc m) = l.foldl inc (l'.foldl inc m) := by
  induction l with
  | nil => intro m; rfl
  | cons x l ih => intro m; rw [List.foldl_cons, ih, Vx]; rfl
theorem Vy (r : List Ky × Int) (m : Mp Int) : aX (dQ r) (m, (0 : Int)) = if r.1.length ≤ 9223372036854775807 then some (r.2, r.1.foldl inc m) else none := by
  have step : ∀ k, k < r.1.length → dQ r ((r.1.take k).foldl inc m, (k : Int)) = some (.inl ((r.1.take (k + 1)).foldl inc m, aI ((k : Int) + 1))) := by
    intro k hk
    unfold dQ
    simp only []
    rw [if_pos (by omega), dF hk]
    simp only [Option.bind_some]
    rw [List.take_add_one, List.getElem?_eq_getElem hk, List.foldl_append]
    rfl
  have run : ∀ k, k ≤ r.1.length → k ≤ 9223372036854775807 → aX (dQ r) (m, (0 : Int)) = aX (dQ r) ((r.1.take k).foldl inc m, (k : Int)) := by
    intro k
    induction k with
    | zero => intro _ _; rfl
    | succ k ih =>
      intro h1 h2
      rw [ih (by omega) (by omega), tK (step k (by omega)), fP (by omega)]
      rfl
  by_cases h : r.1.length ≤ 9223372036854775807
  · rw [if_pos h, run r.1.length (Nat.le_refl _) h, List.take_length]
    refine tN ?_
    unfold dQ
    simp only []
    rw [if_neg (by omega)]
    rfl
  · rw [if_neg h, run 9223372036854775807 (by omega) (Nat.le_refl _), tK (step 9223372036854775807 (by omega))]
    refine OV ?_
    unfold dQ
    simp only []
    rw [show aI (((9223372036854775807 : Nat) : Int) + 1) = -9223372036854775808 from by rw [XP]; decide, if_pos (by omega)]
    have : aF r.1 (-9223372036854775808) = none := by
      cases hg : aF r.1 (-9223372036854775808) with
      | none => rfl
      | some x => have := (dE hg).1; omega
    rw [this]
    rfl
theorem Vz (d : Int) (C : Mp (List UInt8)) (S : Mp (Mp (Int × List UInt8))) (s : List UInt8) (r : List (List UInt8) × Int) (h : eX d C S s = some r) : r.2 = d := by
  unfold eX at h
  obtain ⟨k, hk⟩ := tJ.1 h
  have key : ∀ k (s : List UInt8 × List (List UInt8)), runK (eG d) k s = some r → r.2 = d := by
    intro k
    induction k with
    | zero => intro s h; cases h
    | succ k ih =>
      intro s h
      rw [runK] at h
      cases hf : eG d s with
      | none => rw [hf] at h; cases h
      | some y =>
        rw [hf] at h
        cases y with
        | inl s' => exact ih s' h
        | inr q =>
          have hq : q = r := Option.some.inj h
          subst hq
          obtain ⟨s1, l⟩ := s
          unfold eG at hf
          simp only [] at hf
          split at hf
          · exfalso
            revert hf
            cases Ba s1 0 d with
            | none => intro hf; cases hf
            | some a =>
              simp only [Option.bind_some]
              cases app l [a] 16 with
              | none => intro hf; cases hf
              | some b =>
                simp only [Option.bind_some]
                cases Ba s1 d s1.length with
                | none => intro hf; cases hf
                | some c => intro hf; cases hf
          · simp only [Option.map_some, Option.some.injEq, Sum.inr.injEq] at hf
            rw [← hf]
  exact key k _ hk
theorem o8 (C : Mp (List UInt8)) (S : Mp (Mp (Int × List UInt8))) (d : Int) (m : Mp Int) (a : Ky × (Int × List UInt8)) :
    dU C S (d, m) a = (eX d C S a.2.2).bind fun r => if r.1.length ≤ 9223372036854775807 then some (d, r.1.foldl inc m) else none := by
  obtain ⟨k, x⟩ := a
  unfold dU
  simp only []
  cases h : eX d C S x.2 with
  | none => rfl
  | some r =>
    simp only [Option.bind_some]
    rw [Vy, Vz d C S x.2 r h]
theorem Fv (C : Mp (List UInt8)) (S : Mp (Mp (Int × List UInt8))) : RU (dU C S) := by
  rintro ⟨d, m⟩ a b
  rw [o8, o8]
  cases ha : eX d C S a.2.2 with
  | none =>
    simp only [Option.bind_none]
    cases hb : eX d C S b.2.2 with
    | none => rfl
    | some rb =>
      simp only [Option.bind_some]
      split
      · simp only [Option.bind_some]; rw [o8, ha]; rfl
      · rfl
  | some ra =>
    simp only [Option.bind_some]
    cases hb : eX d C S b.2.2 with
    | none =>
      simp only [Option.bind_none]
      split
      · simp only [Option.bind_some]; rw [o8, hb]; rfl
      · rfl
    | some rb =>
      simp only [Option.bind_some]
      by_cases h1 : ra.1.length ≤ 9223372036854775807
      · by_cases h2 : rb.1.length ≤ 9223372036854775807
        · simp only [h1, h2, if_true, Option.bind_some]
          rw [o8, o8, ha, hb]
          simp only [Option.bind_some, h1, h2, if_true]
          rw [TS]
        · simp only [h1, h2, if_true, if_false, Option.bind_some, Option.bind_none]
          rw [o8, hb]
          simp only [Option.bind_some, h2, if_false]
      · by_cases h2 : rb.1.length ≤ 9223372036854775807
        · simp only [h1, h2, if_true, if_false, Option.bind_some, Option.bind_none]
          rw [o8, ha]
          simp only [Option.bind_some, h1, if_false]
        · simp only [h1, h2, if_false, Option.bind_none]
theorem Ah (C : Mp (List UInt8)) (S : Mp (Mp (Int × List UInt8))) : Comm (dU C S) := (Fv C S).comm
theorem Jj (C : Mp (List UInt8)) (S : Mp (Mp (Int × List UInt8))) (s : Int × Mp Int) (a : Ky × Mp (Int × List UInt8)) : jv C S s a = lG (dU C S) s a.2 := by
  obtain ⟨d, m⟩ := s
  obtain ⟨k, x⟩ := a
  unfold jv
  simp only []
  cases lG (dU C S) (d, m) x <;> rfl
theorem Ai (C : Mp (List UInt8)) (S : Mp (Mp (Int × List UInt8))) : Comm (jv C S) := by
  intro s a b _
  simp only [Jj]
  rw [← Le, ← Le]
  exact OW (Fv C S) List.perm_append_comm s
theorem zD (r : Mp Int × Int) : Comm (fU r) := by
  rintro ⟨m, n⟩ ⟨k1, v1⟩ ⟨k2, v2⟩ _
  unfold fU
  by_cases h1 : (aK r.1 k1).getD 0 = 0 <;> by_cases h2 : (aK r.1 k2).getD 0 = 0 <;> simp [h1, h2, TR]
end Go.Sx
namespace Go.Sx
open Go.RowKit Go.Proofs
set_option linter.unusedVariables false
variable {α γ δ : Type}
def BW (w : World) (b : Nat) : Prop := b < w.heap.size
theorem Cx.refl1 (w : World) : Cx N0 (BW w) w w [] := ⟨rfl, rfl, rfl, Nat.le_refl _, fun _ _ _ => rfl, fun _ h => h.elim, fun _ h => h, N0, N0, ⟨fun _ h => h, fun _ h => h⟩, fun _ h => h.elim, fun _ h => h.elim⟩
theorem RH.sh {w : World} {E : Enc α} {y : Hd} {x : List α} (h : RH N0 w E y x) : (SH E).r w (BW w) y x := by
  obtain ⟨h1, h2, h3, h4⟩ := h
  refine ⟨h1, h2, h3, fun hne a ha => ?_⟩
  cases hx : E.all x with
  | nil => exact absurd hx hne
  | cons c cs =>
    have h5 := h3.2 a 0 c ha (by rw [hx]; rfl)
    have hb : (a.add 0).block < w.heap.size := World.block_lt_of_cell? w _ h5
    rwa [qm] at hb
theorem MN.roh {w : World} {E : Enc γ} {r : γ → δ → Prop} {q : Rl γ δ} {A : Option Addr} {ys : List γ} {xs : List δ} (h : MN N0 w E r A ys xs) (conv : ∀ y x, r y x → q.r w (BW w) y x) : OJ N0 (BW w) w E q A ys xs := ⟨h.ro, h.len, fun j y x a b => conv _ _ (h.el j y x a b)⟩
end Go.Sx
namespace Go.Sx
open Go.RowKit
set_option linter.unusedVariables false
variable {α γ δ : Type} {F O : Nat → Prop} {w0 w : World} {hs : List HP}
theorem SH.ro {E : Enc α} {w : World} {R : Nat → Prop} {y : Hd} {x : List α} : (SH E).r w R y x ↔ y.2.1 = x.length ∧ x.length ≤ y.2.2 ∧ Ro (fun b => ¬ R b) w y.1 (E.all x) :=
  ⟨fun ⟨h1, h2, h3, h4⟩ => ⟨h1, h2, h3, fun hne a ha hn => hn (h4 hne a ha)⟩, fun ⟨h1, h2, h3, h4⟩ => ⟨h1, h2, h3, fun hne a ha => Classical.not_not.1 (h4 hne a ha)⟩⟩
theorem Cx.Y8 {E : Enc α} {A : Option Addr} {n c : Nat} {x : List α} (k : Cx F O w0 w hs) (i : Nat) (hi : hs[i]? = some (Sh (SH E) [(A, n, c)] [x])) {B : Option Addr} {m d : Nat} {y : List α}
    (conv : ∀ (F : Nat → Prop) (w : World), Ro F w A (E.all x) → Ro F w B (E.all y)) (h1 : y.length = m) (h2 : m ≤ d) : Cx F O w0 w (Sh (SH E) [(B, m, d)] [y] :: hs) :=
  k.dup i hi fun w S R h => ⟨fun _ h => h, rfl, fun j u v e1 e2 => by
    cases j with
    | succ j => cases e1
    | zero =>
      obtain rfl := Option.some.inj e1
      obtain rfl := Option.some.inj e2
      have h3 := SH.ro.1 (h.2.2 0 _ _ rfl rfl)
      exact SH.ro.2 ⟨h1.symm, by show y.length ≤ d; omega, conv _ _ h3.2.2⟩⟩
end Go.Sx
namespace Go.Sx
open Go.RowKit Go.MapKept
set_option linter.unusedVariables false
set_option linter.unusedSimpArgs false
variable {α γ δ : Type} {F O : Nat → Prop} {w0 w : World} {hs rest : List HP}
def RN (v : Vl γ δ) : Rl (Option Nat) (Option (Mp δ)) where
  r w R u m := match u, m with
    | none, none => True
    | some b, some m => (RM v).r w R b m
    | _, _ => False
  loc := by
    intro w w' R u m h hk
    cases u <;> cases m
    · exact trivial
    · exact h.elim
    · exact h.elim
    · exact (RM v).loc _ _ _ _ _ h hk
  mono := by
    intro w R R' u m hR h
    cases u <;> cases m
    · exact trivial
    · exact h.elim
    · exact h.elim
    · exact (RM v).mono _ _ _ _ _ hR h
def vN (v : Vl γ δ) : Vl (Option Nat) (Option (Mp δ)) := ⟨fun u => .map u, RN v, fun a b h => by simpa using h⟩
theorem RN.some {v : Vl γ δ} {w : World} {R : Nat → Prop} {u : Option Nat} {m : Option (Mp δ)} (h : (RN v).r w R u m) (hm : m.isSome = true) : u = Option.some (u.getD 0) ∧ (RM v).r w R (u.getD 0) (m.getD []) := by
  cases u <;> cases m
  · cases hm
  · exact h.elim
  · cases hm
  · exact ⟨rfl, h⟩
theorem Cx.shN (k : Cx F O w0 w hs) (v : Vl γ δ) : Cx F O w0 w (Sh (RN v) [Option.none] [Option.none] :: hs) := by
  obtain ⟨U, V, h1, hU, hV⟩ := k.sep
  refine ⟨k.os, k.tape, k.output, k.size, k.block, k.fin, k.F8, U, V, ⟨fun _ => False, fun _ => False, U, V, ⟨fun _ h => h, rfl, fun j y x e1 e2 => ?_⟩, h1, by simp, by simp, fun b hb => hb.elim, fun b hb => hb.elim⟩, hU, hV⟩
  cases j with
  | succ j => cases e1
  | zero =>
    obtain rfl := Option.some.inj e1
    obtain rfl := Option.some.inj e2
    exact trivial
theorem Cx.smN {v : Vl γ δ} {b : Nat} {m : Mp δ} (k : Cx F O w0 w (Sh (RM v) [b] [m] :: rest)) : Cx F O w0 w (Sh (RN v) [Option.some b] [Option.some m] :: rest) :=
  k.weak (h' := Sh (RN v) [Option.some b] [Option.some m]) 0 rfl fun w S R ⟨h0, h1, h2⟩ => ⟨h0, rfl, fun j y x e1 e2 => by
    cases j with
    | succ j => cases e1
    | zero =>
      obtain rfl := Option.some.inj e1
      obtain rfl := Option.some.inj e2
      exact h2 0 _ _ rfl rfl⟩
theorem Cx.msN {v : Vl γ δ} {b : Nat} {m : Mp (Option (Mp δ))} (k : Cx F O w0 w (MS (vN v) b m :: rest)) (h : m.all (fun p => p.2.isSome) = true) :
    Cx F O w0 w (MS (vM v) b (m.map fun p => (p.1, p.2.getD [])) :: rest) := by
  obtain ⟨l, hf, k1⟩ := k.MP
  obtain ⟨S, R, hS⟩ := k1.get 1 rfl
  have hsome : ∀ e ∈ l, e.2.2.isSome = true := fun e he => by
    have h1 : kx e ∈ m := hf.1.mem_iff.1 (List.mem_map.2 ⟨e, he, rfl⟩)
    exact List.all_eq_true.1 h _ h1
  have hu : ∀ e ∈ l, e.2.1 = Option.some (e.2.1.getD 0) := fun e he => by
    obtain ⟨j, hj⟩ := List.getElem?_of_mem he
    have := hS.2.2 j e.2.1 e.2.2 (by rw [List.getElem?_map, hj]; rfl) (by rw [List.getElem?_map, hj]; rfl)
    exact (RN.some this (hsome e he)).1
  refine Cx.QA (l.map fun e => (e.1, e.2.1.getD 0, e.2.2.getD [])) ⟨?_, ?_⟩ ?_
  · have h1 := hf.1.map (fun p : Ky × Option (Mp δ) => (p.1, p.2.getD []))
    rw [List.map_map] at h1
    rw [List.map_map]
    exact h1
  · unfold pq
    rw [List.map_map]
    exact hf.2
  · have e1 : oV (l.map fun e => (e.1, e.2.1.getD 0, e.2.2.getD [])) = oV l := by unfold oV; rw [List.map_map]; rfl
    have e2 : xR (vM v) (l.map fun e => (e.1, e.2.1.getD 0, e.2.2.getD [])) = xR (vN v) l := by
      unfold xR
      rw [List.map_map]
      refine List.map_congr_left fun e he => ?_
      show Value.map (Option.some (e.2.1.getD 0)) = Value.map e.2.1
      rw [← hu e he]
    rw [e1, e2]
    have k2 := k1.weak (h' := Sh (RM v) ((l.map fun e => (e.1, e.2.1.getD 0, e.2.2.getD [])).map (·.2.1)) ((l.map fun e => (e.1, e.2.1.getD 0, e.2.2.getD [])).map (·.2.2))) 1 rfl fun w S R ⟨h0, h1, h2⟩ => by
      refine ⟨h0, by simp, fun j y x g1 g2 => ?_⟩
      rw [List.map_map, List.getElem?_map, Option.map_eq_some_iff] at g1 g2
      obtain ⟨e, he, rfl⟩ := g1
      obtain ⟨e', he', rfl⟩ := g2
      rw [he] at he'
      obtain rfl := Option.some.inj he'
      have := h2 j e.2.1 e.2.2 (by rw [List.getElem?_map, he]; rfl) (by rw [List.getElem?_map, he]; rfl)
      exact (RN.some this (hsome e (List.mem_of_getElem? he))).2
    exact k2
end Go.Sx
namespace Go.Sx
open Go.RowKit Go.MapKept
set_option linter.unusedVariables false
set_option linter.unusedSimpArgs false
variable {P : Program} {n : Nat} {ops : Array Oper} {L : St} {w : World} {K : St → World → Prop}
end Go.Sx
