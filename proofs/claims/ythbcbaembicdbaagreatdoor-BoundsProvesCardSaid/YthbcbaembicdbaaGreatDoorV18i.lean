import Derived.Test.YthbcbaembicdbaaGreatDoorV18h
namespace Go.Proofs.YthbcbaembicdbaaGreatDoor
open Go.Abs Go.RowKit
theorem aa2:ac Tryz.prog 11 [bT NW,jM gl1,I 1048576] (ZD [0,1,0,1] true):=AL (by decide+kernel)
